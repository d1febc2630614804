/-
  Texts of this proof, part 5: Ab21 Ab22 Ab23 Tab Tuv Tv Tvp Tsm Tpb Tpr.
-/
import Derived.Test.YthgackidonocpaaQStoreWritten4
import Derived.Lib.AppendStr
import Derived.MapKept
import Derived.Test.YthgackidonocpaaProg
namespace Go.Proofs.Ythgackidonocpaa
open Go.RowKit Go.Lib
def bytT (b : UInt8) : T := .lit (.int .u8 (b.toNat : Int))
def byts (l : List UInt8) : List T := l.map bytT
def bytRow (l : List UInt8) : T := .row l.length 1 (byts l)
theorem byts_app (l r : List UInt8) : byts (l ++ r) = byts l ++ byts r := by simp [byts]
theorem rt_byts {M : Mm} : ∀ l : List UInt8, RTs M (byts l) (bvs l)
  | [] => by simp [byts, bvs, RTs]
  | b :: l => by
    simp only [byts, bvs, List.map_cons, RTs]
    exact ⟨_, _, rfl, by simp only [bytT, RT, bv], rt_byts l⟩
theorem byts_of {M : Mm} : ∀ {l : List UInt8} {xs : List Value}, RTs M (byts l) xs → xs = bvs l
  | [], _, h => by simpa [byts, RTs, bvs] using h
  | b :: l, _, h => by
    simp only [byts, List.map_cons, RTs] at h
    obtain ⟨x, r, rfl, h1, h2⟩ := h
    simp only [bytT, RT] at h1
    rw [h1, byts_of (l := l) h2]
    rfl
theorem rd_of_row {M : Mm} {w : World} (hm : MemOk M w) {l : List UInt8} {u : Value} (h : RT M (bytRow l) u) : ∃ A c, u = .slice A l.length c ∧ Rd w w.heap.size 1 A l.length (bvs l) := by
  simp only [bytRow, RT] at h
  obtain ⟨A, c, xs, h1, h2, h3, h4, h5, h6, h7⟩ := h
  obtain rfl := byts_of h7
  refine ⟨A, c, h1, h5, fun hn => ?_⟩
  obtain ⟨ad, h8, h9⟩ := h6 hn
  have hat : ∀ j u, (bvs l)[j]? = some u → w.cell? (ad.add j) = some u := fun j u hj => (hm _ _ (h9 j u hj)).1
  refine ⟨ad, h8, ?_, hat⟩
  obtain ⟨x, hx⟩ : ∃ x, (bvs l)[0]? = some x := ⟨_, List.getElem?_eq_getElem (by rw [bvs_len]; exact hn)⟩
  have := World.block_lt_of_cell? w _ (hat 0 x hx)
  rwa [add_block] at this
theorem strCells_eq (s : ByteArray) : strCells s = bvs s.data.toList := by
  simp [strCells, bvs, bv]
section
variable {P : Program} {F : Frm} {L : Tab} {d : Option Tmp} {ty : TypeId} {pos : String} {aft : Array Edge} {g : Option (Nat × Bool)} {ρ : Operand → AV} {hp : List Blk} {K : AV → List Blk → Prop}
variable {t t' u e : TypeId} {x y : Operand} {k k' : IntKind} {a b : Int}
theorem lo_str {ti tu te : TI} {l : List UInt8} (hL : TabOk P L) (hx : ρ x = .c (bytRow l)) (hu : L.look u = some tu) (hud : tu.d = .slice e) (he : L.look e = some te) (hed : te.d = .int .u8) (ht : L.look t = some ti) (hd : ti.d = .string) (h : K (.c (.lit (.string ⟨l.toArray⟩))) hp) : LO P F ⟨d, .convert u t x, ty, pos, aft, g⟩ ρ hp K := by
  refine LO.same (fun M ev w hev hh => ?_) h
  have h1 := hev x (by first | (simp [Op.operands]; done) | simp [Op.operands, Call.operands])
  rw [hx] at h1
  simp only [RA] at h1
  obtain ⟨A, c, h2, h3⟩ := rd_of_row hh.mem h1
  have := run_string_rd (P := P) u t e (hL.slice hu hud) (hL.int he hed) (hL.string ht hd) c h3
  exact ⟨.string ⟨l.toArray⟩, by simp [execOp, h2, this], by simp only [RA, RT]⟩
theorem lo_bytes {ti tu te : TI} {s : ByteArray} (hL : TabOk P L) (hx : ρ x = .c (.lit (.string s))) (hs : s.size ≤ maxLen) (hu : L.look u = some tu) (hud : tu.d = .string) (ht : L.look t = some ti) (hd : ti.d = .slice e) (he : L.look e = some te) (hed : te.d = .int .u8) (h : K (.c (bytRow s.data.toList)) hp) : LO P F ⟨d, .convert u t x, ty, pos, aft, g⟩ ρ hp K := by
  refine ⟨fun M ev w hev hh => ?_⟩
  have h1 := hev x (by first | (simp [Op.operands]; done) | simp [Op.operands, Call.operands])
  rw [hx] at h1
  simp only [RA, RT] at h1
  obtain ⟨c, w', h2, h3, h4, h5⟩ := run_bytes_rd (P := P) w u t e s.data.toList (hL.string hu hud) (hL.slice ht hd) (hL.int he hed)
  have hsz : s.data.toList.length = s.size := rfl
  have hrun : (execOp ev ⟨d, .convert u t x, ty, pos, aft, g⟩).run P w = .ok (.value (.slice (some ⟨w.heap.size, 0, none⟩) s.data.toList.length c)) w' := by
    simp [execOp, h1] at h2 ⊢
    simp [h2]
  rw [hrun]
  have hm0 := hh.mem.below h5
  have hM := frz_ext (M := M) w.heap.size w'
  refine ⟨frz M w.heap.size w', _, hp, h, (hM.low hh.frm.size), hh.below h5 hM (frz_ok hm0 _), ?_⟩
  simp only [RA, bytRow, RT]
  refine ⟨some ⟨w.heap.size, 0, none⟩, c, bvs s.data.toList, rfl, h3, by rw [hsz]; exact hs, by omega, by rw [bvs_len]; omega, fun hn => ⟨_, rfl, fun j u hj => ?_⟩, rt_byts _⟩
  obtain ⟨ad, e1, _, e2⟩ := h4.2 hn
  injection e1 with e1
  subst e1
  exact frz_new (mem_fresh hh.mem (by rw [add_block]; exact Nat.le_refl _)) (by rw [add_block]; exact Nat.le_refl _) (e2 j u hj) (bvs_one _ u (List.mem_of_getElem? hj))
theorem lo_shl {n : Int} (hx : ρ x = .c (.lit (.int k a))) (hy : ρ y = .c (.lit (.int k' n))) (h0 : 0 ≤ n) {r : Int} (hr : k.wrap (a * 2 ^ (min n.toNat k.bits)) = r) (h : K (.c (.lit (.int k r))) hp) : LO P F ⟨d, .binOp .shl t x y t', ty, pos, aft, g⟩ ρ hp K :=
  lo_bin hx hy guard_int (fun w => by simp only [binOp, Op.shift, if_neg (Int.not_lt.2 h0), hr, Sem.run_pure]) h
theorem lo_shr {n : Int} (hx : ρ x = .c (.lit (.int k a))) (hy : ρ y = .c (.lit (.int k' n))) (h0 : 0 ≤ n) {r : Int} (hr : a.fdiv (2 ^ (min n.toNat k.bits)) = r) (h : K (.c (.lit (.int k r))) hp) : LO P F ⟨d, .binOp .shr t x y t', ty, pos, aft, g⟩ ρ hp K :=
  lo_bin hx hy guard_int (fun w => by simp only [binOp, Op.shift, if_neg (Int.not_lt.2 h0), hr, Sem.run_pure]) h
theorem lo_or (hx : ρ x = .c (.lit (.int k a))) (hy : ρ y = .c (.lit (.int k b))) {r : Int} (hr : k.wrap (((a % 2 ^ k.bits).toNat ||| (b % 2 ^ k.bits).toNat : Nat) : Int) = r) (h : K (.c (.lit (.int k r))) hp) : LO P F ⟨d, .binOp .or t x y t', ty, pos, aft, g⟩ ρ hp K :=
  lo_bin hx hy guard_int (fun w => by simp [binOp, Op.intBits, hr]) h
theorem lo_xor (hx : ρ x = .c (.lit (.int k a))) (hy : ρ y = .c (.lit (.int k b))) {r : Int} (hr : k.wrap (((a % 2 ^ k.bits).toNat ^^^ (b % 2 ^ k.bits).toNat : Nat) : Int) = r) (h : K (.c (.lit (.int k r))) hp) : LO P F ⟨d, .binOp .xor t x y t', ty, pos, aft, g⟩ ρ hp K :=
  lo_bin hx hy guard_int (fun w => by simp [binOp, Op.intBits, hr]) h
theorem lo_app_str {ti tu te : TI} {i n : Nat} {v : Value} {cs : List T} {s : ByteArray} (hL : TabOk P L) (hx : ρ x = .own i v) (hi : hp[i]? = some (.row v e 1 n cs)) (hy : ρ y = .c (.lit (.string s))) (ht : L.look t = some ti) (hd : ti.d = .slice e) (hu : L.look u = some tu) (hud : tu.d = .string) (hte : L.look e = some te) (hsz : te.size = 1) (hby : te.bytes = 1) (hz : te.zero = [.int .u8 0]) (hag : te.agg = false)
    (h63 : n + s.size ≤ 140737488355328) (h : ∀ v', K (.own i v') (hp.set i (.row v' e 1 (n + s.size) (cs ++ byts s.data.toList)))) : LO P F ⟨d, .call { callee := .builtin .append, args := #[x, y], argTypes := #[t, u] }, ty, pos, aft, g⟩ ρ hp K := by
  refine ⟨fun M ev w hev hh => ?_⟩
  have h1 := hev x (by first | (simp [Op.operands]; done) | simp [Op.operands, Call.operands])
  rw [hx] at h1
  simp only [RA] at h1
  have h2 := hev y (by first | (simp [Op.operands]; done) | simp [Op.operands, Call.operands])
  rw [hy] at h2
  simp only [RA, RT] at h2
  obtain ⟨xs, ho, hxs, hone, hsz0⟩ := hh.at_ i _ hi
  obtain ⟨inf, zv, i1, i2, i3, i4, i5, i6, i7⟩ := hL.info hte
  have hzv : zv = .int .u8 0 := by
    rw [hag] at i7
    rw [hz] at i5
    cases zv <;> simp_all [Value.cells]
  have hml : n + s.size ≤ maxLen := by unfold maxLen; omega
  obtain ⟨v', w', g1, g2, g5, g6⟩ := run_append_own_string (P := P) w 0 t u ty e inf (hL.slice ht hd) (hL.string hu hud) i1 (by rw [i4, hzv]) (by rw [i2, hsz]) (by rw [i3, hby]) v n xs ho s hml h63 (Nat.zero_le _)
  have hrun : (execOp ev ⟨d, .call { callee := .builtin .append, args := #[x, y], argTypes := #[t, u] }, ty, pos, aft, g⟩).run P w = .ok (.value v') w' := by
    simp [execOp, resolve, invoke, builtin, h1.1, h2, g1]
  rw [hrun]
  have hwhere : v'.ownBlock = v.ownBlock ∨ v'.ownBlock = some w.heap.size := by
    rcases ho.2 with ⟨rfl, rfl⟩ | ⟨gb, cap, cur, rfl, _, hgb, hnc, hcm, hcs, htake⟩
    · by_cases h0 : s.size = 0
      · exact .inl (by rw [g6.2 ⟨rfl, h0⟩])
      · have hr := run_append_nil_string (P := P) w t u ty e inf zv (hL.slice ht hd) (hL.string hu hud) i1 i4 s (by omega) (by omega) (by rw [i3, hby]; omega)
        rw [hr] at g1
        injection g1 with e1 _
        exact .inr (by rw [← e1]; rfl)
    · by_cases hroom : n + s.size ≤ cap
      · have hcs' : cur.size = cap := by simpa using hcs
        have hr := run_append_room_string (P := P) w t u ty e inf (hL.slice ht hd) (hL.string hu hud) i1 (by rw [i2, hsz]) gb n cap cur hgb s hroom (by omega)
        rw [hr] at g1
        injection g1 with e1 _
        exact .inl (by rw [← e1]; rfl)
      · have hxl : xs.length = n := by simpa using ho.1
        have hr := run_append_grow_string (P := P) w t u ty e inf zv (hL.slice ht hd) (hL.string hu hud) i1 i4 ⟨gb, 0, none⟩ n cap xs (by rw [i2, hsz]; simpa using hxl) (ho.cells (g := gb) rfl) s (by omega) (by omega) (by rw [i3, hby]; have := nextslicecap_le (need := n + s.size) (old := cap) (by omega); omega)
        rw [hr] at g1
        injection g1 with e1 _
        exact .inr (by rw [← e1]; rfl)
  refine ⟨M, _, _, h v', Ext.refl _ _, ?_, by simp only [RA]; exact ⟨trivial, own_one g2⟩⟩
  refine hh.step i g5.os g5.tape g5.output g5.size (fun k hk hne => g5.block k hk (fun e => hne _ hi e.symm)) (Ext.refl _ _) (fun p v h1 h2 => by rw [h2] at h1; cases h1) (fun j hj => by rw [List.getElem?_set_ne (Ne.symm hj)]) (fun x' hx' => ?_)
  have hlt : i < hp.length := (List.getElem?_eq_some_iff.1 hi).1
  rw [List.getElem?_set_self hlt] at hx'
  obtain rfl : Blk.row v' e 1 (n + s.size) (cs ++ byts s.data.toList) = x' := by injection hx'
  rw [strCells_eq] at g2
  refine ⟨⟨_, g2, hxs.app (rt_byts _), hone.app (bvs_one _), by omega⟩, fun b hb => ?_⟩
  rcases hwhere with g6 | g6
  · exact .inl ⟨_, hi, by simpa [Blk.blk, g6] using hb⟩
  · obtain rfl : w.heap.size = b := by simpa [Blk.blk, g6] using hb
    exact .inr ⟨Nat.le_refl _, fun p hp => mem_fresh hh.mem (by omega)⟩
end
end Go.Proofs.Ythgackidonocpaa
namespace Go.Proofs.Ythgackidonocpaa
open Go.RowKit
section
variable {L : Tab} {σ : AS}
theorem outsA_nil : OutsA L σ [] [] := by simp only [OutsA]
theorem outsA_cons {r : ResultVar} {rs : List ResultVar} {v : AV} {vs : List AV} (h : OutA L σ r v) (h' : OutsA L σ rs vs) : OutsA L σ (r :: rs) (v :: vs) := by simp only [OutsA]; exact ⟨v, vs, rfl, h, h'⟩
theorem outA_tmp {i : Nat} {v : AV} (h : fc (σ.tmps i) = some v) : OutA L σ (.tmp i) v := by simp only [OutA]; exact fc_eq h
theorem outA_agg {a ty i b off : Nat} {tb : TypeId} {cs l : List AV} {ti : TI} (h1 : σ.tmps a = .ptr i b off) (h2 : σ.hp[i]? = some (.box b tb cs)) (h3 : L.look ty = some ti) (h4 : ti.agg = true) (h5 : Nat.ble (off + ti.size) cs.length = true) (h6 : evl ((cs.drop off).take ti.size) = some l) : OutA L σ (.cell a ty) (.agg l) := by
  simp only [OutA]
  refine ⟨i, b, off, tb, cs, ti, h1, h2, h3, ?_⟩
  rw [h4]
  exact ⟨Nat.le_of_ble_eq_true h5, by rw [evl_eq h6]⟩
theorem outA_one {a ty i b off : Nat} {tb : TypeId} {cs : List AV} {v : AV} {ti : TI} (h1 : σ.tmps a = .ptr i b off) (h2 : σ.hp[i]? = some (.box b tb cs)) (h3 : L.look ty = some ti) (h4 : ti.agg = false) (h5 : cs[off]? = some v) : OutA L σ (.cell a ty) v := by
  simp only [OutA]
  refine ⟨i, b, off, tb, cs, ti, h1, h2, h3, ?_⟩
  rw [h4]
  exact h5
theorem zG {res : List ResultVar} {k : Nat} {R : AV → List Blk → Prop} {e : Exit} {vs : List AV} {hq : List Blk} (h : R (outA vs) hq) (he : e = .normal ∨ e = .ret := by first | exact .inl rfl | exact .inr rfl)
    (ho : OutsA L σ res vs := by repeat (first | exact outsA_nil | apply outsA_cons | (apply outA_tmp; (focus exact rfl)) | (apply outA_agg; (focus exact rfl); (focus exact rfl); (focus exact rfl); (focus exact rfl); (focus exact rfl); (focus exact rfl)) | (apply outA_one; (focus exact rfl); (focus exact rfl); (focus exact rfl); (focus exact rfl); (focus exact rfl))))
    (hh : evl (σ.hp.take k) = some hq := by exact rfl) : FinG L res k R e σ := ⟨he, vs, ho, by rw [← evl_eq hh]; exact h⟩
end
section
variable {P : Program} {F : Frm} {L : Tab} {d : Option Tmp} {ty : TypeId} {pos : String} {aft : Array Edge} {g : Option (Nat × Bool)} {ρ : Operand → AV} {hp : List Blk} {K : AV → List Blk → Prop}
theorem zCallG {f : FuncId} {y : Operand} {xs : List Operand} {ats : Array TypeId} {asq cap : List AV} {hs : List Blk} {R : AV → List Blk → Prop} (sel : List Nat) (hc : AG P f asq hs R)
    (h : ∀ r hs2, R r hs2 → ∃ r' hp', Re r r' ∧ Nat.ble sel.length hs2.length = true ∧ evl (putB hp sel hs2) = some hp' ∧ K r' hp') (hy : ρ y = .fn (.func f) cap := by exact rfl)
    (hx : Res (xs.map ρ ++ cap) asq := by repeat (first | exact res_nil | apply res_cons | exact re_own | exact re_ptr | exact re_refl | apply re_cls | exact rzs_nil | apply rzs_cons | exact rz_c | exact rz_nil rfl | apply rz_agg | apply rz_fn | apply rz_tup)) (hsl : selB hp sel = some hs := by exact rfl) (hf : freshB sel = true := by exact rfl) :
    LO P F ⟨d, .call { callee := .value y, args := xs.toArray, argTypes := ats }, ty, pos, aft, g⟩ ρ hp K :=
  lo_callG sel hc (fun M u hu => by rw [hy] at hu; simpa only [RA] using hu) hx hsl hf fun r hs2 hR => by
    obtain ⟨r', hp', h1, h2, h3, h4⟩ := h r hs2 hR
    exact ⟨r', h1, Nat.le_of_ble_eq_true h2, by rw [← evl_eq h3]; exact h4⟩
/-- a function value that came in -/
theorem zCallGc {f : FuncId} {y : Operand} {xs : List Operand} {ats : Array TypeId} {asq : List AV} {cap : List T} {hs : List Blk} {R : AV → List Blk → Prop} (sel : List Nat) (hc : AG P f asq hs R)
    (h : ∀ r hs2, R r hs2 → ∃ r' hp', Re r r' ∧ Nat.ble sel.length hs2.length = true ∧ evl (putB hp sel hs2) = some hp' ∧ K r' hp') (hy : ρ y = .c (.fn (.func f) cap) := by exact rfl)
    (hx : Res (xs.map ρ ++ cap.map .c) asq := by repeat (first | exact res_nil | apply res_cons | exact re_own | exact re_ptr | exact re_refl | apply re_cls | exact rzs_nil | apply rzs_cons | exact rz_c | exact rz_nil rfl | apply rz_agg | apply rz_fn | apply rz_tup)) (hsl : selB hp sel = some hs := by exact rfl) (hf : freshB sel = true := by exact rfl) :
    LO P F ⟨d, .call { callee := .value y, args := xs.toArray, argTypes := ats }, ty, pos, aft, g⟩ ρ hp K :=
  lo_callG sel hc (fun M u hu => by
    rw [hy] at hu
    simp only [RA, RT] at hu
    obtain ⟨cs, h1, h2⟩ := hu
    exact ⟨cs, h1, RAs.ofT h2⟩) hx hsl hf fun r hs2 hR => by
    obtain ⟨r', hp', h1, h2, h3, h4⟩ := h r hs2 hR
    exact ⟨r', h1, Nat.le_of_ble_eq_true h2, by rw [← evl_eq h3]; exact h4⟩
variable {t u e : TypeId} {x y : Operand} {ti tu te : TI} {cs : List T} {n i : Nat} {v : Value} {e' : TypeId}
theorem zStr (l : List UInt8) (hc : cs = byts l) (hn : n = l.length) (h : K (.c (.lit (.string ⟨l.toArray⟩))) hp) (hL : TabOk P L := by exact tok) (hx : ρ x = .c (.row n 1 cs) := by exact rfl) (hu : L.look u = some tu := by exact rfl) (hud : tu.d = .slice e := by exact rfl) (he : L.look e = some te := by exact rfl) (hed : te.d = .int .u8 := by exact rfl) (ht : L.look t = some ti := by exact rfl) (hd : ti.d = .string := by exact rfl) :
    LO P F ⟨d, .convert u t x, ty, pos, aft, g⟩ ρ hp K := lo_str hL (by rw [hx, hc, hn]; rfl) hu hud he hed ht hd h
theorem zByt {s : ByteArray} (hs : s.size ≤ maxLen) (h : K (.c (bytRow s.data.toList)) hp) (hL : TabOk P L := by exact tok) (hx : ρ x = .c (.lit (.string s)) := by exact rfl) (hu : L.look u = some tu := by exact rfl) (hud : tu.d = .string := by exact rfl) (ht : L.look t = some ti := by exact rfl) (hd : ti.d = .slice e := by exact rfl) (he : L.look e = some te := by exact rfl) (hed : te.d = .int .u8 := by exact rfl) :
    LO P F ⟨d, .convert u t x, ty, pos, aft, g⟩ ρ hp K := lo_bytes hL hx hs hu hud ht hd he hed h
theorem zAps {s : ByteArray} {hp' : Value → List Blk} (h63 : n + s.size ≤ 140737488355328) (h : ∀ v', K (.own i v') (hp' v')) (hL : TabOk P L := by exact tok) (hx : ρ x = .own i v := by exact rfl) (hi : hp[i]? = some (.row v e 1 n cs) := by exact rfl) (hy : ρ y = .c (.lit (.string s)) := by exact rfl) (ht : L.look t = some ti := by exact rfl) (hd : ti.d = .slice e := by exact rfl) (hu : L.look u = some tu := by exact rfl) (hud : tu.d = .string := by exact rfl) (hte : L.look e = some te := by exact rfl) (hsz : te.size = 1 := by exact rfl) (hby : te.bytes = 1 := by exact rfl) (hz : te.zero = [.int .u8 0] := by exact rfl) (hag : te.agg = false := by exact rfl)
    (hf : ∀ v', evl (hp.set i (.row v' e 1 (n + s.size) (cs ++ byts s.data.toList))) = some (hp' v') := by exact fun _ => rfl) : LO P F ⟨d, .call { callee := .builtin .append, args := #[x, y], argTypes := #[t, u] }, ty, pos, aft, g⟩ ρ hp K :=
  lo_app_str hL hx hi hy ht hd hu hud hte hsz hby hz hag h63 fun v' => by rw [← evl_eq (hf v')]; exact h v'
end
end Go.Proofs.Ythgackidonocpaa
namespace Go.Proofs.Ythgackidonocpaa
open Go.RowKit
def bs (l : List UInt8) : ByteArray := ⟨l.toArray⟩
theorem bs_app (a b : List UInt8) : bs a ++ bs b = bs (a ++ b) := by
  apply ByteArray.ext
  simp [bs]
theorem bs_size' (l : List UInt8) : (bs l).size = l.length := by simp [bs, ByteArray.size]
theorem sz_len (s : ByteArray) : s.data.toList.length = s.size := by cases s; simp [ByteArray.size]
section
variable {P : Program} {F : Frm} {L : Tab} {d : Option Tmp} {ty : TypeId} {pos : String} {aft : Array Edge} {g : Option (Nat × Bool)} {ρ : Operand → AV} {hp : List Blk} {K : AV → List Blk → Prop}
theorem zBo {t el : TypeId} {ti te : TI} {n k : Nat} {parts : List (Nat × Operand)} {cs cs' : List AV} {ts : List T} {hp' : Value → List Blk} (h : ∀ v, K (.own k v) (hp' v)) (hL : TabOk P L := by exact tok) (ht : L.look t = some ti := by exact rfl) (hd : ti.d = .slice el := by exact rfl) (hte : L.look el = some te := by exact rfl) (h0 : Nat.ble 1 te.size = true := by exact rfl) (hn : Nat.ble (n * te.size) 16777216 = true := by exact rfl)
    (hf : fillA (fun i => some (i * te.size, te.size)) ((List.range (n * te.size)).map fun j => .c (.lit (te.zero.getD (j % te.size) undef))) (parts.map fun p => (p.1, ρ p.2)) = some cs := by exact rfl) (he : evl cs = some cs' := by exact rfl) (hz : Rzs [] cs' ts := by repeat (first | exact rzs_nil | apply rzs_cons | exact rz_c | exact rz_nil rfl | apply rz_agg | exact rz_own rfl | apply rz_fn | exact rz_ptr rfl | apply rz_tup)) (hk : lenU hp = some k := by exact rfl) (hq : ∀ v, evl (hp ++ [.row v el te.size n ts]) = some (hp' v) := by exact fun _ => rfl) :
    LO P F ⟨d, .buildSlice t n parts.toArray, ty, pos, aft, g⟩ ρ hp K := v_bslice_own hL ht hd hte h0 hn hf he hz hk hq h
theorem zCatb {t t' : TypeId} {x y : Operand} (a b : List UInt8) (hb : a.length + b.length ≤ 9223372036854775807) (h : K (.c (.lit (.string (bs (a ++ b))))) hp) (hx : ρ x = .c (.lit (.string (bs a))) := by exact rfl) (hy : ρ y = .c (.lit (.string (bs b))) := by exact rfl) : LO P F ⟨d, .binOp .add t x y t', ty, pos, aft, g⟩ ρ hp K :=
  lo_cat hx hy (by rw [bs_size', bs_size']; exact hb) (by rw [bs_app]; exact h)
end
/-- a function that grows a row of the caller's own, given nil -/
theorem ag_nil {P : Program} {f : FuncId} {asq : List AV} {e : TypeId} {sz : Nat} {R : AV → List Blk → Prop} (h0 : 0 < sz) (h : AG P f (.own 0 (.slice none 0 0) :: asq) [.row (.slice none 0 0) e sz 0 []] R) : AG P f (.c (.lit (.slice none 0 0)) :: asq) [] R := by
  refine ⟨h.1, fun F M w vs hh hv => ?_⟩
  refine h.2 F M w vs (push_row hh rfl rfl rfl (Nat.le_refl _) (fun _ _ => rfl) (Ext.refl _ _) (fun p v h1 h2 => by rw [h2] at h1; cases h1) ⟨[], World.ownsRow_nil _ _ _ _, by simp only [RTs], fun x hx => by simp at hx, h0⟩ (fun b hb => by simp [Blk.blk, Value.ownBlock] at hb)) ?_
  simp only [RAs] at hv ⊢
  obtain ⟨x, r, e1, h1, h2⟩ := hv
  simp only [RA, RT] at h1
  exact ⟨x, r, e1, by simp only [RA]; exact ⟨h1, rfl⟩, h2⟩
end Go.Proofs.Ythgackidonocpaa
namespace Go.Proofs.Ythgackidonocpaa
set_option maxRecDepth 100000 in
def tab : Tab :=
  (.node 203 ⟨1, 8, [.nilFunc], .other⟩ (.node 102 ⟨8, 136, [.int .i64 0, .int .i64 0, .string ⟨#[]⟩, .slice none 0 0, .slice none 0 0, .slice none 0 0, .slice none 0 0, .int .i64 0], (.struct [(0, 1), (1, 1), (2, 1), (3, 1), (4, 1), (5, 1), (6, 1), (7, 1)])⟩ (.node 52 ⟨1, 8, [.nilFunc], .other⟩ (.node 24 ⟨4, 56, [.int .i64 0, .int .i64 0, .string ⟨#[]⟩, .slice none 0 0], (.struct [(0, 1), (1, 1), (2, 1), (3, 1)])⟩ (.node 12 ⟨1, 8, [.int .u64 0], (.int .u64)⟩ (.node 6 ⟨1, 1, [.int .u8 0], (.int .u8)⟩ (.node 3 ⟨1, 8, [.int .i64 0], (.int .i64)⟩ (.node 2 ⟨1, 8, [.int .i64 0], (.int .i64)⟩ (.node 1 ⟨1, 8, [.nilFunc], .other⟩ .nil .nil) .nil) (.node 5 ⟨1, 1, [.int .u8 0], (.int .u8)⟩ (.node 4 ⟨1, 1, [.bool false], .bool⟩ .nil .nil) .nil)) (.node 9 ⟨1, 16, [.string ⟨#[]⟩], .string⟩ (.node 8 ⟨4, 24, [.int .i64 0, .int .i64 0, .bool false, .int .u8 0], (.struct [(0, 1), (1, 1), (2, 1), (3, 1)])⟩ (.node 7 ⟨4, 24, [.int .i64 0, .int .i64 0, .bool false, .int .u8 0], (.struct [(0, 1), (1, 1), (2, 1), (3, 1)])⟩ .nil .nil) .nil) (.node 11 ⟨1, 16, [.string ⟨#[]⟩], .string⟩ (.node 10 ⟨1, 16, [.string ⟨#[]⟩], .string⟩ .nil .nil) .nil))) (.node 18 ⟨1, 8, [.pointer none], (.struct [(0, 1)])⟩ (.node 15 ⟨1, 8, [.pointer none], .other⟩ (.node 14 ⟨2, 24, [.string ⟨#[]⟩, .int .u64 0], (.struct [(0, 1), (1, 1)])⟩ (.node 13 ⟨2, 24, [.string ⟨#[]⟩, .int .u64 0], (.struct [(0, 1), (1, 1)])⟩ .nil .nil) .nil) (.node 17 ⟨1, 8, [.pointer none], .other⟩ (.node 16 ⟨1, 8, [.pointer none], .other⟩ .nil .nil) .nil)) (.node 21 ⟨1, 4, [.int .i32 0], (.int .i32)⟩ (.node 20 ⟨1, 16, [.nilIface], .other⟩ (.node 19 ⟨1, 8, [.pointer none], (.struct [(0, 1)])⟩ .nil .nil) .nil) (.node 23 ⟨4, 56, [.int .i64 0, .int .i64 0, .string ⟨#[]⟩, .slice none 0 0], (.struct [(0, 1), (1, 1), (2, 1), (3, 1)])⟩ (.node 22 ⟨1, 24, [.slice none 0 0], (.slice 24)⟩ .nil .nil) .nil)))) (.node 38 ⟨9, 104, [.int .i64 0, .int .i64 0, .int .i64 0, .int .i64 0, .string ⟨#[]⟩, .int .i64 0, .int .i64 0, .string ⟨#[]⟩, .slice none 0 0], (.struct [(0, 1), (1, 1), (2, 1), (3, 1), (4, 1), (5, 4)])⟩ (.node 31 ⟨1, 8, [.nilFunc], .other⟩ (.node 27 ⟨1, 24, [.slice none 0 0], (.slice 5)⟩ (.node 26 ⟨1, 8, [.nilFunc], .other⟩ (.node 25 ⟨1, 8, [.nilFunc], .other⟩ .nil .nil) .nil) (.node 30 ⟨1, 8, [.nilFunc], .other⟩ (.node 28 ⟨1, 8, [.int .i64 0], (.int .i64)⟩ .nil .nil) .nil)) (.node 35 ⟨1, 8, [.nilFunc], .other⟩ (.node 34 ⟨1, 8, [.nilFunc], .other⟩ (.node 32 ⟨1, 8, [.nilFunc], .other⟩ .nil .nil) .nil) (.node 37 ⟨9, 104, [.int .i64 0, .int .i64 0, .int .i64 0, .int .i64 0, .string ⟨#[]⟩, .int .i64 0, .int .i64 0, .string ⟨#[]⟩, .slice none 0 0], (.struct [(0, 1), (1, 1), (2, 1), (3, 1), (4, 1), (5, 4)])⟩ (.node 36 ⟨1, 8, [.nilFunc], .other⟩ .nil .nil) .nil))) (.node 45 ⟨1, 24, [.slice none 0 0], (.slice 163)⟩ (.node 42 ⟨1, 8, [.nilFunc], .other⟩ (.node 41 ⟨1, 8, [.nilFunc], .other⟩ (.node 40 ⟨1, 8, [.nilFunc], .other⟩ .nil .nil) .nil) (.node 44 ⟨1, 8, [.nilFunc], .other⟩ (.node 43 ⟨1, 8, [.nilFunc], .other⟩ .nil .nil) .nil)) (.node 49 ⟨1, 8, [.nilFunc], .other⟩ (.node 47 ⟨3, 64, [.string ⟨#[]⟩, .slice none 0 0, .slice none 0 0], (.struct [(0, 1), (1, 1), (2, 1)])⟩ (.node 46 ⟨3, 64, [.string ⟨#[]⟩, .slice none 0 0, .slice none 0 0], (.struct [(0, 1), (1, 1), (2, 1)])⟩ .nil .nil) .nil) (.node 51 ⟨1, 8, [.nilFunc], .other⟩ (.node 50 ⟨1, 8, [.nilFunc], .other⟩ .nil .nil) .nil))))) (.node 78 ⟨1, 8, [.nilFunc], .other⟩ (.node 65 ⟨1, 8, [.nilFunc], .other⟩ (.node 58 ⟨8, 152, [.int .i64 0, .string ⟨#[]⟩, .slice none 0 0, .slice none 0 0, .slice none 0 0, .int .i64 0, .slice none 0 0, .slice none 0 0], (.struct [(0, 1), (1, 3), (4, 1), (5, 1), (6, 1), (7, 1)])⟩ (.node 55 ⟨1, 24, [.slice none 0 0], (.slice 38)⟩ (.node 54 ⟨1, 8, [.nilFunc], .other⟩ (.node 53 ⟨1, 8, [.nilFunc], .other⟩ .nil .nil) .nil) (.node 57 ⟨8, 152, [.int .i64 0, .string ⟨#[]⟩, .slice none 0 0, .slice none 0 0, .slice none 0 0, .int .i64 0, .slice none 0 0, .slice none 0 0], (.struct [(0, 1), (1, 3), (4, 1), (5, 1), (6, 1), (7, 1)])⟩ (.node 56 ⟨1, 24, [.slice none 0 0], (.slice 3)⟩ .nil .nil) .nil)) (.node 62 ⟨1, 8, [.nilFunc], .other⟩ (.node 61 ⟨1, 8, [.nilFunc], .other⟩ (.node 60 ⟨1, 8, [.nilFunc], .other⟩ .nil .nil) .nil) (.node 64 ⟨1, 8, [.nilFunc], .other⟩ (.node 63 ⟨1, 8, [.nilFunc], .other⟩ .nil .nil) .nil))) (.node 71 ⟨1, 8, [.nilFunc], .other⟩ (.node 68 ⟨3, 56, [.int .i64 0, .slice none 0 0, .slice none 0 0], (.struct [(0, 1), (1, 1), (2, 1)])⟩ (.node 67 ⟨1, 24, [.slice none 0 0], (.slice 183)⟩ (.node 66 ⟨1, 24, [.slice none 0 0], (.slice 58)⟩ .nil .nil) .nil) (.node 70 ⟨1, 8, [.nilFunc], .other⟩ (.node 69 ⟨3, 56, [.int .i64 0, .slice none 0 0, .slice none 0 0], (.struct [(0, 1), (1, 1), (2, 1)])⟩ .nil .nil) .nil)) (.node 74 ⟨1, 24, [.slice none 0 0], (.slice 83)⟩ (.node 73 ⟨1, 24, [.slice none 0 0], (.slice 80)⟩ (.node 72 ⟨1, 8, [.nilFunc], .other⟩ .nil .nil) .nil) (.node 76 ⟨5, 88, [.bool false, .slice none 0 0, .slice none 0 0, .slice none 0 0, .int .i64 0], (.struct [(0, 1), (1, 1), (2, 1), (3, 1), (4, 1)])⟩ (.node 75 ⟨5, 88, [.bool false, .slice none 0 0, .slice none 0 0, .slice none 0 0, .int .i64 0], (.struct [(0, 1), (1, 1), (2, 1), (3, 1), (4, 1)])⟩ .nil .nil) .nil)))) (.node 90 ⟨1, 24, [.slice none 0 0], (.slice 220)⟩ (.node 84 ⟨1, 8, [.nilFunc], .other⟩ (.node 81 ⟨1, 8, [.nilFunc], .other⟩ (.node 80 ⟨4, 32, [.int .i64 0, .int .i64 0, .int .i64 0, .int .i64 0], (.struct [(0, 1), (1, 1), (2, 1), (3, 1)])⟩ (.node 79 ⟨4, 32, [.int .i64 0, .int .i64 0, .int .i64 0, .int .i64 0], (.struct [(0, 1), (1, 1), (2, 1), (3, 1)])⟩ .nil .nil) .nil) (.node 83 ⟨1, 24, [.slice none 0 0], (.slice 56)⟩ (.node 82 ⟨1, 8, [.nilFunc], .other⟩ .nil .nil) .nil)) (.node 87 ⟨1, 24, [.slice none 0 0], (.slice 411)⟩ (.node 86 ⟨1, 8, [.nilFunc], .other⟩ (.node 85 ⟨1, 8, [.nilFunc], .other⟩ .nil .nil) .nil) (.node 89 ⟨1, 24, [.slice none 0 0], (.slice 218)⟩ (.node 88 ⟨1, 24, [.slice none 0 0], (.slice 213)⟩ .nil .nil) .nil))) (.node 96 ⟨3, 48, [.int .i64 0, .string ⟨#[]⟩, .slice none 0 0], (.struct [(0, 1), (1, 1), (2, 1)])⟩ (.node 93 ⟨8, 168, [.string ⟨#[]⟩, .int .i64 0, .slice none 0 0, .slice none 0 0, .slice none 0 0, .slice none 0 0, .slice none 0 0, .slice none 0 0], (.struct [(0, 1), (1, 1), (2, 1), (3, 1), (4, 1), (5, 1), (6, 1), (7, 1)])⟩ (.node 92 ⟨1, 24, [.slice none 0 0], (.slice 104)⟩ (.node 91 ⟨1, 24, [.slice none 0 0], (.slice 299)⟩ .nil .nil) .nil) (.node 95 ⟨1, 24, [.slice none 0 0], (.slice 97)⟩ (.node 94 ⟨8, 168, [.string ⟨#[]⟩, .int .i64 0, .slice none 0 0, .slice none 0 0, .slice none 0 0, .slice none 0 0, .slice none 0 0, .slice none 0 0], (.struct [(0, 1), (1, 1), (2, 1), (3, 1), (4, 1), (5, 1), (6, 1), (7, 1)])⟩ .nil .nil) .nil)) (.node 99 ⟨1, 24, [.slice none 0 0], (.slice 102)⟩ (.node 98 ⟨1, 24, [.slice none 0 0], (.slice 9)⟩ (.node 97 ⟨3, 48, [.int .i64 0, .string ⟨#[]⟩, .slice none 0 0], (.struct [(0, 1), (1, 1), (2, 1)])⟩ .nil .nil) .nil) (.node 101 ⟨8, 136, [.int .i64 0, .int .i64 0, .string ⟨#[]⟩, .slice none 0 0, .slice none 0 0, .slice none 0 0, .slice none 0 0, .int .i64 0], (.struct [(0, 1), (1, 1), (2, 1), (3, 1), (4, 1), (5, 1), (6, 1), (7, 1)])⟩ (.node 100 ⟨1, 24, [.slice none 0 0], (.slice 304)⟩ .nil .nil) .nil)))))) (.node 155 ⟨1, 8, [.nilFunc], .other⟩ (.node 130 ⟨1, 8, [.nilFunc], .other⟩ (.node 116 ⟨3, 32, [.int .i64 0, .int .i64 0, .string ⟨#[]⟩], (.struct [(0, 1), (1, 1), (2, 1)])⟩ (.node 109 ⟨1, 8, [.nilFunc], .other⟩ (.node 105 ⟨1, 24, [.slice none 0 0], (.slice 207)⟩ (.node 104 ⟨14, 248, [.string ⟨#[]⟩, .slice none 0 0, .slice none 0 0, .int .i64 0, .string ⟨#[]⟩, .slice none 0 0, .int .i64 0, .int .i64 0, .string ⟨#[]⟩, .slice none 0 0, .slice none 0 0, .slice none 0 0, .slice none 0 0, .int .i64 0], (.struct [(0, 1), (1, 1), (2, 1), (3, 3), (6, 8)])⟩ (.node 103 ⟨14, 248, [.string ⟨#[]⟩, .slice none 0 0, .slice none 0 0, .int .i64 0, .string ⟨#[]⟩, .slice none 0 0, .int .i64 0, .int .i64 0, .string ⟨#[]⟩, .slice none 0 0, .slice none 0 0, .slice none 0 0, .slice none 0 0, .int .i64 0], (.struct [(0, 1), (1, 1), (2, 1), (3, 3), (6, 8)])⟩ .nil .nil) .nil) (.node 107 ⟨1, 24, [.slice none 0 0], (.struct [(0, 1)])⟩ (.node 106 ⟨1, 24, [.slice none 0 0], (.struct [(0, 1)])⟩ .nil .nil) .nil)) (.node 112 ⟨1, 8, [.nilFunc], .other⟩ (.node 111 ⟨1, 8, [.nilFunc], .other⟩ (.node 110 ⟨1, 8, [.nilFunc], .other⟩ .nil .nil) .nil) (.node 115 ⟨1, 8, [.nilFunc], .other⟩ (.node 113 ⟨1, 24, [.slice none 0 0], (.slice 117)⟩ .nil .nil) .nil))) (.node 123 ⟨1, 24, [.slice none 0 0], (.slice 199)⟩ (.node 119 ⟨1, 8, [.nilFunc], .other⟩ (.node 118 ⟨1, 8, [.nilFunc], .other⟩ (.node 117 ⟨3, 32, [.int .i64 0, .int .i64 0, .string ⟨#[]⟩], (.struct [(0, 1), (1, 1), (2, 1)])⟩ .nil .nil) .nil) (.node 122 ⟨1, 8, [.nilFunc], .other⟩ (.node 120 ⟨1, 24, [.slice none 0 0], (.slice 129)⟩ .nil .nil) .nil)) (.node 127 ⟨1, 8, [.nilFunc], .other⟩ (.node 126 ⟨1, 8, [.nilFunc], .other⟩ (.node 125 ⟨1, 8, [.nilFunc], .other⟩ .nil .nil) .nil) (.node 129 ⟨2, 16, [.int .i64 0, .int .i64 0], (.struct [(0, 1), (1, 1)])⟩ (.node 128 ⟨2, 16, [.int .i64 0, .int .i64 0], (.struct [(0, 1), (1, 1)])⟩ .nil .nil) .nil)))) (.node 143 ⟨1, 8, [.nilFunc], .other⟩ (.node 137 ⟨1, 8, [.nilFunc], .other⟩ (.node 134 ⟨1, 8, [.nilFunc], .other⟩ (.node 133 ⟨1, 8, [.nilFunc], .other⟩ (.node 131 ⟨1, 8, [.nilFunc], .other⟩ .nil .nil) .nil) (.node 136 ⟨1, 8, [.nilFunc], .other⟩ (.node 135 ⟨1, 8, [.nilFunc], .other⟩ .nil .nil) .nil)) (.node 140 ⟨5, 64, [.int .i64 0, .int .i64 0, .string ⟨#[]⟩, .slice none 0 0, .int .i64 0], (.struct [(0, 4), (4, 1)])⟩ (.node 139 ⟨1, 8, [.pointer none], .other⟩ (.node 138 ⟨1, 8, [.nilFunc], .other⟩ .nil .nil) .nil) (.node 142 ⟨1, 24, [.slice none 0 0], (.slice 141)⟩ (.node 141 ⟨5, 64, [.int .i64 0, .int .i64 0, .string ⟨#[]⟩, .slice none 0 0, .int .i64 0], (.struct [(0, 4), (4, 1)])⟩ .nil .nil) .nil))) (.node 149 ⟨2, 32, [.slice none 0 0, .bool false], (.struct [(0, 1), (1, 1)])⟩ (.node 146 ⟨1, 8, [.nilFunc], .other⟩ (.node 145 ⟨1, 8, [.nilFunc], .other⟩ (.node 144 ⟨1, 8, [.nilFunc], .other⟩ .nil .nil) .nil) (.node 148 ⟨1, 8, [.pointer none], .other⟩ (.node 147 ⟨1, 8, [.pointer none], .other⟩ .nil .nil) .nil)) (.node 152 ⟨1, 8, [.nilFunc], .other⟩ (.node 151 ⟨1, 8, [.nilFunc], .other⟩ (.node 150 ⟨2, 32, [.slice none 0 0, .bool false], (.struct [(0, 1), (1, 1)])⟩ .nil .nil) .nil) (.node 154 ⟨1, 8, [.nilFunc], .other⟩ (.node 153 ⟨1, 8, [.nilFunc], .other⟩ .nil .nil) .nil))))) (.node 179 ⟨1, 8, [.nilFunc], .other⟩ (.node 167 ⟨1, 8, [.nilFunc], .other⟩ (.node 161 ⟨1, 8, [.nilFunc], .other⟩ (.node 158 ⟨1, 8, [.nilFunc], .other⟩ (.node 157 ⟨1, 8, [.nilFunc], .other⟩ (.node 156 ⟨1, 8, [.nilFunc], .other⟩ .nil .nil) .nil) (.node 160 ⟨1, 8, [.nilFunc], .other⟩ (.node 159 ⟨1, 8, [.nilFunc], .other⟩ .nil .nil) .nil)) (.node 164 ⟨1, 8, [.nilFunc], .other⟩ (.node 163 ⟨5, 64, [.int .i64 0, .int .i64 0, .int .i64 0, .string ⟨#[]⟩, .slice none 0 0], (.struct [(0, 1), (1, 4)])⟩ (.node 162 ⟨5, 64, [.int .i64 0, .int .i64 0, .int .i64 0, .string ⟨#[]⟩, .slice none 0 0], (.struct [(0, 1), (1, 4)])⟩ .nil .nil) .nil) (.node 166 ⟨1, 8, [.nilFunc], .other⟩ (.node 165 ⟨1, 8, [.nilFunc], .other⟩ .nil .nil) .nil))) (.node 173 ⟨1, 8, [.nilFunc], .other⟩ (.node 170 ⟨1, 8, [.nilFunc], .other⟩ (.node 169 ⟨1, 8, [.nilFunc], .other⟩ (.node 168 ⟨1, 8, [.nilFunc], .other⟩ .nil .nil) .nil) (.node 172 ⟨1, 8, [.nilFunc], .other⟩ (.node 171 ⟨1, 8, [.nilFunc], .other⟩ .nil .nil) .nil)) (.node 176 ⟨1, 8, [.nilFunc], .other⟩ (.node 175 ⟨1, 8, [.nilFunc], .other⟩ (.node 174 ⟨1, 8, [.nilFunc], .other⟩ .nil .nil) .nil) (.node 178 ⟨1, 8, [.nilFunc], .other⟩ (.node 177 ⟨1, 8, [.int .u64 0], (.int .u64)⟩ .nil .nil) .nil)))) (.node 191 ⟨1, 8, [.pointer none], .other⟩ (.node 185 ⟨1, 8, [.nilFunc], .other⟩ (.node 182 ⟨3, 40, [.int .i64 0, .int .i64 0, .slice none 0 0], (.struct [(0, 1), (1, 1), (2, 1)])⟩ (.node 181 ⟨1, 8, [.nilFunc], .other⟩ (.node 180 ⟨1, 8, [.nilFunc], .other⟩ .nil .nil) .nil) (.node 184 ⟨1, 8, [.nilFunc], .other⟩ (.node 183 ⟨3, 40, [.int .i64 0, .int .i64 0, .slice none 0 0], (.struct [(0, 1), (1, 1), (2, 1)])⟩ .nil .nil) .nil)) (.node 188 ⟨1, 8, [.nilFunc], .other⟩ (.node 187 ⟨1, 24, [.slice none 0 0], (.slice 27)⟩ (.node 186 ⟨1, 8, [.nilFunc], .other⟩ .nil .nil) .nil) (.node 190 ⟨1, 8, [.nilFunc], .other⟩ (.node 189 ⟨1, 8, [.nilFunc], .other⟩ .nil .nil) .nil))) (.node 197 ⟨5, 56, [.slice none 0 0, .int .i64 0, .int .i64 0, .bool false, .int .i64 0], (.struct [(0, 1), (1, 1), (2, 1), (3, 1), (4, 1)])⟩ (.node 194 ⟨1, 8, [.nilFunc], .other⟩ (.node 193 ⟨1, 8, [.nilFunc], .other⟩ (.node 192 ⟨1, 8, [.nilFunc], .other⟩ .nil .nil) .nil) (.node 196 ⟨1, 8, [.pointer none], .other⟩ (.node 195 ⟨1, 8, [.map none], .other⟩ .nil .nil) .nil)) (.node 200 ⟨1, 24, [.slice none 0 0], (.slice 4)⟩ (.node 199 ⟨2, 16, [.int .i64 0, .int .i64 0], (.array 2 3)⟩ (.node 198 ⟨5, 56, [.slice none 0 0, .int .i64 0, .int .i64 0, .bool false, .int .i64 0], (.struct [(0, 1), (1, 1), (2, 1), (3, 1), (4, 1)])⟩ .nil .nil) .nil) (.node 201 ⟨1, 8, [.nilFunc], .other⟩ .nil .nil))))))) (.node 303 ⟨12, 192, [.int .i64 0, .int .i64 0, .string ⟨#[]⟩, .slice none 0 0, .int .i64 0, .int .i64 0, .string ⟨#[]⟩, .slice none 0 0, .slice none 0 0, .slice none 0 0, .slice none 0 0, .int .i64 0], (.struct [(0, 4), (4, 8)])⟩ (.node 254 ⟨1, 8, [.nilFunc], .other⟩ (.node 228 ⟨1, 8, [.nilFunc], .other⟩ (.node 216 ⟨1, 8, [.nilFunc], .other⟩ (.node 210 ⟨1, 8, [.nilFunc], .other⟩ (.node 206 ⟨4, 72, [.string ⟨#[]⟩, .int .i64 0, .slice none 0 0, .slice none 0 0], (.struct [(0, 1), (1, 1), (2, 1), (3, 1)])⟩ (.node 205 ⟨1, 24, [.slice none 0 0], (.slice 225)⟩ (.node 204 ⟨1, 8, [.nilFunc], .other⟩ .nil .nil) .nil) (.node 209 ⟨1, 8, [.nilFunc], .other⟩ (.node 207 ⟨4, 72, [.string ⟨#[]⟩, .int .i64 0, .slice none 0 0, .slice none 0 0], (.struct [(0, 1), (1, 1), (2, 1), (3, 1)])⟩ .nil .nil) .nil)) (.node 213 ⟨3, 64, [.string ⟨#[]⟩, .slice none 0 0, .slice none 0 0], (.struct [(0, 1), (1, 1), (2, 1)])⟩ (.node 212 ⟨3, 64, [.string ⟨#[]⟩, .slice none 0 0, .slice none 0 0], (.struct [(0, 1), (1, 1), (2, 1)])⟩ (.node 211 ⟨1, 24, [.slice none 0 0], (.slice 215)⟩ .nil .nil) .nil) (.node 215 ⟨2, 40, [.string ⟨#[]⟩, .slice none 0 0], (.struct [(0, 1), (1, 1)])⟩ (.node 214 ⟨2, 40, [.string ⟨#[]⟩, .slice none 0 0], (.struct [(0, 1), (1, 1)])⟩ .nil .nil) .nil))) (.node 222 ⟨1, 8, [.nilFunc], .other⟩ (.node 219 ⟨3, 56, [.string ⟨#[]⟩, .string ⟨#[]⟩, .slice none 0 0], (.struct [(0, 1), (1, 1), (2, 1)])⟩ (.node 218 ⟨2, 40, [.string ⟨#[]⟩, .slice none 0 0], (.struct [(0, 1), (1, 1)])⟩ (.node 217 ⟨2, 40, [.string ⟨#[]⟩, .slice none 0 0], (.struct [(0, 1), (1, 1)])⟩ .nil .nil) .nil) (.node 221 ⟨1, 8, [.nilFunc], .other⟩ (.node 220 ⟨3, 56, [.string ⟨#[]⟩, .string ⟨#[]⟩, .slice none 0 0], (.struct [(0, 1), (1, 1), (2, 1)])⟩ .nil .nil) .nil)) (.node 225 ⟨5, 64, [.int .i64 0, .int .i64 0, .int .i64 0, .string ⟨#[]⟩, .slice none 0 0], (.struct [(0, 1), (1, 4)])⟩ (.node 224 ⟨5, 64, [.int .i64 0, .int .i64 0, .int .i64 0, .string ⟨#[]⟩, .slice none 0 0], (.struct [(0, 1), (1, 4)])⟩ (.node 223 ⟨1, 8, [.map none], .other⟩ .nil .nil) .nil) (.node 227 ⟨1, 8, [.nilFunc], .other⟩ (.node 226 ⟨1, 8, [.nilFunc], .other⟩ .nil .nil) .nil)))) (.node 240 ⟨1, 16, [.nilIface], .other⟩ (.node 234 ⟨2, 32, [.pointer none, .slice none 0 0], (.struct [(0, 1), (1, 1)])⟩ (.node 231 ⟨1, 8, [.map none], .other⟩ (.node 230 ⟨1, 8, [.nilFunc], .other⟩ (.node 229 ⟨1, 8, [.nilFunc], .other⟩ .nil .nil) .nil) (.node 233 ⟨1, 8, [.pointer none], .other⟩ (.node 232 ⟨1, 8, [.nilFunc], .other⟩ .nil .nil) .nil)) (.node 237 ⟨5, 32, [.int .i64 0, .int .i64 0, .bool false, .bool false, .int .i64 0], (.struct [(0, 1), (1, 1), (2, 1), (3, 1), (4, 1)])⟩ (.node 236 ⟨5, 32, [.int .i64 0, .int .i64 0, .bool false, .bool false, .int .i64 0], (.struct [(0, 1), (1, 1), (2, 1), (3, 1), (4, 1)])⟩ (.node 235 ⟨2, 32, [.pointer none, .slice none 0 0], (.struct [(0, 1), (1, 1)])⟩ .nil .nil) .nil) (.node 239 ⟨1, 16, [.nilIface], .other⟩ (.node 238 ⟨1, 24, [.slice none 0 0], (.slice 237)⟩ .nil .nil) .nil))) (.node 248 ⟨1, 8, [.nilFunc], .other⟩ (.node 244 ⟨1, 8, [.nilFunc], .other⟩ (.node 243 ⟨1, 8, [.nilFunc], .other⟩ (.node 242 ⟨1, 8, [.nilFunc], .other⟩ .nil .nil) .nil) (.node 246 ⟨1, 24, [.slice none 0 0], (.slice 318)⟩ (.node 245 ⟨1, 8, [.nilFunc], .other⟩ .nil .nil) .nil)) (.node 251 ⟨1, 8, [.nilFunc], .other⟩ (.node 250 ⟨1, 8, [.nilFunc], .other⟩ (.node 249 ⟨1, 8, [.nilFunc], .other⟩ .nil .nil) .nil) (.node 253 ⟨1, 8, [.nilFunc], .other⟩ (.node 252 ⟨1, 8, [.nilFunc], .other⟩ .nil .nil) .nil))))) (.node 278 ⟨1, 8, [.nilFunc], .other⟩ (.node 266 ⟨3, 40, [.slice none 0 0, .bool false, .int .i64 0], (.struct [(0, 2), (2, 1)])⟩ (.node 260 ⟨1, 8, [.nilFunc], .other⟩ (.node 257 ⟨1, 8, [.nilFunc], .other⟩ (.node 256 ⟨1, 8, [.nilFunc], .other⟩ (.node 255 ⟨1, 8, [.nilFunc], .other⟩ .nil .nil) .nil) (.node 259 ⟨1, 8, [.nilFunc], .other⟩ (.node 258 ⟨1, 8, [.nilFunc], .other⟩ .nil .nil) .nil)) (.node 263 ⟨2, 32, [.slice none 0 0, .bool false], (.struct [(0, 1), (1, 1)])⟩ (.node 262 ⟨1, 8, [.nilFunc], .other⟩ (.node 261 ⟨1, 8, [.nilFunc], .other⟩ .nil .nil) .nil) (.node 265 ⟨3, 40, [.slice none 0 0, .bool false, .int .i64 0], (.struct [(0, 2), (2, 1)])⟩ (.node 264 ⟨2, 32, [.slice none 0 0, .bool false], (.struct [(0, 1), (1, 1)])⟩ .nil .nil) .nil))) (.node 272 ⟨1, 8, [.nilFunc], .other⟩ (.node 269 ⟨1, 8, [.nilFunc], .other⟩ (.node 268 ⟨1, 8, [.pointer none], .other⟩ (.node 267 ⟨1, 8, [.nilFunc], .other⟩ .nil .nil) .nil) (.node 271 ⟨1, 8, [.nilFunc], .other⟩ (.node 270 ⟨1, 8, [.nilFunc], .other⟩ .nil .nil) .nil)) (.node 275 ⟨1, 8, [.nilFunc], .other⟩ (.node 274 ⟨1, 8, [.nilFunc], .other⟩ (.node 273 ⟨1, 8, [.nilFunc], .other⟩ .nil .nil) .nil) (.node 277 ⟨1, 8, [.nilFunc], .other⟩ (.node 276 ⟨1, 8, [.nilFunc], .other⟩ .nil .nil) .nil)))) (.node 292 ⟨1, 8, [.pointer none], .other⟩ (.node 284 ⟨1, 8, [.pointer none], .other⟩ (.node 281 ⟨1, 24, [.slice none 0 0], (.slice 284)⟩ (.node 280 ⟨1, 8, [.map none], .other⟩ (.node 279 ⟨1, 8, [.nilFunc], .other⟩ .nil .nil) .nil) (.node 283 ⟨3, 56, [.slice none 0 0, .slice none 0 0, .map none], (.struct [(0, 1), (1, 1), (2, 1)])⟩ (.node 282 ⟨3, 56, [.slice none 0 0, .slice none 0 0, .map none], (.struct [(0, 1), (1, 1), (2, 1)])⟩ .nil .nil) .nil)) (.node 288 ⟨1, 8, [.nilFunc], .other⟩ (.node 287 ⟨1, 8, [.nilFunc], .other⟩ (.node 286 ⟨1, 8, [.nilFunc], .other⟩ .nil .nil) .nil) (.node 291 ⟨1, 8, [.nilFunc], .other⟩ (.node 290 ⟨1, 8, [.nilFunc], .other⟩ .nil .nil) .nil))) (.node 298 ⟨15, 272, [.string ⟨#[]⟩, .slice none 0 0, .slice none 0 0, .slice none 0 0, .int .i64 0, .string ⟨#[]⟩, .slice none 0 0, .int .i64 0, .int .i64 0, .string ⟨#[]⟩, .slice none 0 0, .slice none 0 0, .slice none 0 0, .slice none 0 0, .int .i64 0], (.struct [(0, 1), (1, 1), (2, 1), (3, 1), (4, 3), (7, 8)])⟩ (.node 295 ⟨17, 344, [.string ⟨#[]⟩, .int .i64 0, .slice none 0 0, .slice none 0 0, .slice none 0 0, .slice none 0 0, .slice none 0 0, .slice none 0 0, .string ⟨#[]⟩, .int .i64 0, .slice none 0 0, .slice none 0 0, .slice none 0 0, .slice none 0 0, .slice none 0 0, .slice none 0 0, .map none], (.struct [(0, 8), (8, 8), (16, 1)])⟩ (.node 294 ⟨17, 344, [.string ⟨#[]⟩, .int .i64 0, .slice none 0 0, .slice none 0 0, .slice none 0 0, .slice none 0 0, .slice none 0 0, .slice none 0 0, .string ⟨#[]⟩, .int .i64 0, .slice none 0 0, .slice none 0 0, .slice none 0 0, .slice none 0 0, .slice none 0 0, .slice none 0 0, .map none], (.struct [(0, 8), (8, 8), (16, 1)])⟩ (.node 293 ⟨1, 8, [.map none], .other⟩ .nil .nil) .nil) (.node 297 ⟨1, 8, [.nilFunc], .other⟩ (.node 296 ⟨1, 8, [.nilFunc], .other⟩ .nil .nil) .nil)) (.node 301 ⟨4, 56, [.int .i64 0, .int .i64 0, .string ⟨#[]⟩, .slice none 0 0], (.struct [(0, 1), (1, 1), (2, 1), (3, 1)])⟩ (.node 300 ⟨1, 24, [.slice none 0 0], (.slice 302)⟩ (.node 299 ⟨15, 272, [.string ⟨#[]⟩, .slice none 0 0, .slice none 0 0, .slice none 0 0, .int .i64 0, .string ⟨#[]⟩, .slice none 0 0, .int .i64 0, .int .i64 0, .string ⟨#[]⟩, .slice none 0 0, .slice none 0 0, .slice none 0 0, .slice none 0 0, .int .i64 0], (.struct [(0, 1), (1, 1), (2, 1), (3, 1), (4, 3), (7, 8)])⟩ .nil .nil) .nil) (.node 302 ⟨4, 56, [.int .i64 0, .int .i64 0, .string ⟨#[]⟩, .slice none 0 0], (.struct [(0, 1), (1, 1), (2, 1), (3, 1)])⟩ .nil .nil)))))) (.node 360 ⟨1, 8, [.nilFunc], .other⟩ (.node 330 ⟨5, 88, [.slice none 0 0, .bool false, .int .i64 0, .slice none 0 0, .slice none 0 0], (.struct [(0, 1), (1, 1), (2, 1), (3, 1), (4, 1)])⟩ (.node 317 ⟨1, 8, [.nilFunc], .other⟩ (.node 310 ⟨3, 24, [.int .i64 0, .int .i64 0, .int .i64 0], (.struct [(0, 1), (1, 1), (2, 1)])⟩ (.node 306 ⟨1, 8, [.nilFunc], .other⟩ (.node 305 ⟨1, 8, [.nilFunc], .other⟩ (.node 304 ⟨12, 192, [.int .i64 0, .int .i64 0, .string ⟨#[]⟩, .slice none 0 0, .int .i64 0, .int .i64 0, .string ⟨#[]⟩, .slice none 0 0, .slice none 0 0, .slice none 0 0, .slice none 0 0, .int .i64 0], (.struct [(0, 4), (4, 8)])⟩ .nil .nil) .nil) (.node 309 ⟨1, 24, [.slice none 0 0], (.slice 311)⟩ (.node 308 ⟨1, 8, [.nilFunc], .other⟩ .nil .nil) .nil)) (.node 313 ⟨1, 8, [.int .u64 0], (.int .u64)⟩ (.node 312 ⟨1, 8, [.nilFunc], .other⟩ (.node 311 ⟨3, 24, [.int .i64 0, .int .i64 0, .int .i64 0], (.struct [(0, 1), (1, 1), (2, 1)])⟩ .nil .nil) .nil) (.node 316 ⟨1, 8, [.pointer none], .other⟩ (.node 315 ⟨1, 8, [.nilFunc], .other⟩ .nil .nil) .nil))) (.node 324 ⟨1, 8, [.nilFunc], .other⟩ (.node 320 ⟨5, 64, [.int .i64 0, .int .i64 0, .string ⟨#[]⟩, .slice none 0 0, .int .i64 0], (.struct [(0, 3), (3, 1), (4, 1)])⟩ (.node 319 ⟨5, 64, [.int .i64 0, .int .i64 0, .string ⟨#[]⟩, .slice none 0 0, .int .i64 0], (.struct [(0, 3), (3, 1), (4, 1)])⟩ (.node 318 ⟨1, 8, [.pointer none], .other⟩ .nil .nil) .nil) (.node 323 ⟨1, 8, [.nilFunc], .other⟩ (.node 322 ⟨1, 8, [.nilFunc], .other⟩ .nil .nil) .nil)) (.node 327 ⟨1, 8, [.nilFunc], .other⟩ (.node 326 ⟨1, 8, [.nilFunc], .other⟩ (.node 325 ⟨1, 8, [.nilFunc], .other⟩ .nil .nil) .nil) (.node 329 ⟨5, 88, [.slice none 0 0, .bool false, .int .i64 0, .slice none 0 0, .slice none 0 0], (.struct [(0, 1), (1, 1), (2, 1), (3, 1), (4, 1)])⟩ (.node 328 ⟨1, 8, [.nilFunc], .other⟩ .nil .nil) .nil)))) (.node 344 ⟨3, 56, [.slice none 0 0, .slice none 0 0, .pointer none], (.struct [(0, 1), (1, 1), (2, 1)])⟩ (.node 337 ⟨1, 8, [.nilFunc], .other⟩ (.node 334 ⟨1, 8, [.nilFunc], .other⟩ (.node 333 ⟨1, 8, [.nilFunc], .other⟩ (.node 331 ⟨1, 8, [.nilFunc], .other⟩ .nil .nil) .nil) (.node 336 ⟨1, 8, [.nilFunc], .other⟩ (.node 335 ⟨1, 8, [.nilFunc], .other⟩ .nil .nil) .nil)) (.node 340 ⟨1, 8, [.nilFunc], .other⟩ (.node 339 ⟨1, 8, [.nilFunc], .other⟩ (.node 338 ⟨1, 8, [.nilFunc], .other⟩ .nil .nil) .nil) (.node 343 ⟨1, 8, [.nilFunc], .other⟩ (.node 341 ⟨1, 8, [.pointer none], .other⟩ .nil .nil) .nil))) (.node 353 ⟨1, 8, [.nilFunc], .other⟩ (.node 348 ⟨1, 4, [.int .u32 0], (.int .u32)⟩ (.node 347 ⟨1, 8, [.nilFunc], .other⟩ (.node 345 ⟨3, 56, [.slice none 0 0, .slice none 0 0, .pointer none], (.struct [(0, 1), (1, 1), (2, 1)])⟩ .nil .nil) .nil) (.node 352 ⟨1, 8, [.nilFunc], .other⟩ (.node 350 ⟨1, 8, [.nilFunc], .other⟩ .nil .nil) .nil)) (.node 357 ⟨1, 8, [.nilFunc], .other⟩ (.node 356 ⟨1, 8, [.nilFunc], .other⟩ (.node 354 ⟨1, 8, [.int .i64 0], (.int .i64)⟩ .nil .nil) .nil) (.node 359 ⟨1, 8, [.nilFunc], .other⟩ (.node 358 ⟨1, 8, [.nilFunc], .other⟩ .nil .nil) .nil))))) (.node 388 ⟨1, 8, [.nilFunc], .other⟩ (.node 373 ⟨1, 8, [.nilFunc], .other⟩ (.node 366 ⟨1, 8, [.nilFunc], .other⟩ (.node 363 ⟨1, 8, [.nilFunc], .other⟩ (.node 362 ⟨1, 8, [.nilFunc], .other⟩ (.node 361 ⟨1, 8, [.nilFunc], .other⟩ .nil .nil) .nil) (.node 365 ⟨1, 8, [.nilFunc], .other⟩ (.node 364 ⟨1, 8, [.nilFunc], .other⟩ .nil .nil) .nil)) (.node 370 ⟨1, 8, [.nilFunc], .other⟩ (.node 369 ⟨1, 8, [.nilFunc], .other⟩ (.node 367 ⟨1, 8, [.nilFunc], .other⟩ .nil .nil) .nil) (.node 372 ⟨1, 8, [.nilFunc], .other⟩ (.node 371 ⟨1, 8, [.nilFunc], .other⟩ .nil .nil) .nil))) (.node 382 ⟨1, 8, [.nilFunc], .other⟩ (.node 377 ⟨1, 8, [.nilFunc], .other⟩ (.node 376 ⟨1, 8, [.nilFunc], .other⟩ (.node 374 ⟨1, 8, [.pointer none], .other⟩ .nil .nil) .nil) (.node 381 ⟨1, 8, [.nilFunc], .other⟩ (.node 379 ⟨1, 8, [.nilFunc], .other⟩ .nil .nil) .nil)) (.node 385 ⟨1, 8, [.nilFunc], .other⟩ (.node 384 ⟨1, 8, [.nilFunc], .other⟩ (.node 383 ⟨1, 8, [.nilFunc], .other⟩ .nil .nil) .nil) (.node 387 ⟨1, 8, [.nilFunc], .other⟩ (.node 386 ⟨1, 8, [.int .u64 0], (.int .u64)⟩ .nil .nil) .nil)))) (.node 401 ⟨0, 0, [], (.struct [(0, 0)])⟩ (.node 394 ⟨1, 8, [.nilFunc], .other⟩ (.node 391 ⟨3, 56, [.slice none 0 0, .slice none 0 0, .pointer none], (.struct [(0, 1), (1, 1), (2, 1)])⟩ (.node 390 ⟨1, 8, [.nilFunc], .other⟩ (.node 389 ⟨1, 8, [.nilFunc], .other⟩ .nil .nil) .nil) (.node 393 ⟨1, 8, [.nilFunc], .other⟩ (.node 392 ⟨3, 56, [.slice none 0 0, .slice none 0 0, .pointer none], (.struct [(0, 1), (1, 1), (2, 1)])⟩ .nil .nil) .nil)) (.node 398 ⟨4, 40, [.pointer none, .pointer none, .pointer none, .string ⟨#[]⟩], (.struct [(0, 1), (1, 1), (2, 1), (3, 1)])⟩ (.node 397 ⟨1, 8, [.nilFunc], .other⟩ (.node 395 ⟨1, 8, [.pointer none], .other⟩ .nil .nil) .nil) (.node 400 ⟨0, 0, [], (.array 0 16)⟩ (.node 399 ⟨4, 40, [.pointer none, .pointer none, .pointer none, .string ⟨#[]⟩], (.struct [(0, 1), (1, 1), (2, 1), (3, 1)])⟩ .nil .nil) .nil))) (.node 407 ⟨1, 4, [.int .i32 0], (.int .i32)⟩ (.node 404 ⟨1, 1, [.int .u8 0], (.int .u8)⟩ (.node 403 ⟨1, 1, [.int .u8 0], (.int .u8)⟩ (.node 402 ⟨0, 0, [], (.struct [(0, 0)])⟩ .nil .nil) .nil) (.node 406 ⟨1, 4, [.int .i32 0], (.int .i32)⟩ (.node 405 ⟨1, 8, [.nilFunc], .other⟩ .nil .nil) .nil)) (.node 410 ⟨3, 32, [.string ⟨#[]⟩, .int .i64 0, .int .i64 0], (.struct [(0, 1), (1, 1), (2, 1)])⟩ (.node 409 ⟨11, 48, [.int .u64 0, .int .u64 0, .int .u32 0, .int .u8 0, .int .u8 0, .int .u8 0, .int .u8 0, .nilFunc, .pointer none, .int .i32 0, .int .i32 0], (.struct [(0, 1), (1, 1), (2, 1), (3, 1), (4, 1), (5, 1), (6, 1), (7, 1), (8, 1), (9, 1), (10, 1)])⟩ (.node 408 ⟨11, 48, [.int .u64 0, .int .u64 0, .int .u32 0, .int .u8 0, .int .u8 0, .int .u8 0, .int .u8 0, .nilFunc, .pointer none, .int .i32 0, .int .i32 0], (.struct [(0, 1), (1, 1), (2, 1), (3, 1), (4, 1), (5, 1), (6, 1), (7, 1), (8, 1), (9, 1), (10, 1)])⟩ .nil .nil) .nil) (.node 411 ⟨3, 32, [.string ⟨#[]⟩, .int .i64 0, .int .i64 0], (.struct [(0, 1), (1, 1), (2, 1)])⟩ .nil .nil))))))))
set_option maxRecDepth 100000 in
theorem tabOkB : tab.okB Try.prog = true := by kernel_rfl
theorem tok : TabOk Try.prog tab := tab_ok tabOkB
end Go.Proofs.Ythgackidonocpaa
namespace Go.Proofs.Ythgackidonocpaa
open Go.RowKit
/-- a number in groups of seven bits -/
def uv (n : Nat) : List UInt8 := if h : n < 128 then [UInt8.ofNat n] else UInt8.ofNat (n % 128 + 128) :: uv (n / 128)
theorem uv_small {n : Nat} (h : n < 128) : uv n = [UInt8.ofNat n] := by rw [uv, dif_pos h]
theorem uv_big {n : Nat} (h : ¬ n < 128) : uv n = UInt8.ofNat (n % 128 + 128) :: uv (n / 128) := by rw [uv, dif_neg h]
theorem uv_len : ∀ (k n : Nat), n < 128 ^ k → (uv n).length ≤ max k 1
  | 0, n, h => by
    have : n = 0 := by simpa using h
    subst this
    rw [uv_small (by omega)]
    simp
  | k + 1, n, h => by
    by_cases hn : n < 128
    · rw [uv_small hn]; simp
    · rw [uv_big hn]
      have h1 : n / 128 < 128 ^ k := by
        rw [Nat.div_lt_iff_lt_mul (by omega)]
        rwa [Nat.pow_succ] at h
      have h2 := uv_len k (n / 128) h1
      have h3 : 0 < k := by
        rcases Nat.eq_zero_or_pos k with rfl | hk
        · simp at h1; omega
        · exact hk
      simp only [List.length_cons]
      omega
theorem uv_len64 {n : Nat} (h : n < 2 ^ 64) : (uv n).length ≤ 10 := by
  have := uv_len 10 n (by have : (2 : Nat) ^ 64 ≤ 128 ^ 10 := by decide
                          omega)
  simpa using this
theorem u8_of {n : Nat} (h : n < 256) : T.lit (.int .u8 ((n : Nat) : Int)) = bytT (UInt8.ofNat n) := by
  unfold bytT
  rw [UInt8.toNat_ofNat', Nat.mod_eq_of_lt (by simpa using h)]
theorem or128 : ∀ x : Nat, x < 256 → x ||| 128 = x % 128 + 128 := by decide +kernel
theorem wrap_u8 (u : Nat) : IntKind.u8.wrap (u : Int) = ((u % 256 : Nat) : Int) := by
  simp [IntKind.wrap, IntKind.bits, IntKind.signed]
theorem or_u8 (u : Nat) : IntKind.u8.wrap ((((u % 256 : Nat) : Int) % 2 ^ IntKind.u8.bits).toNat ||| ((128 : Int) % 2 ^ IntKind.u8.bits).toNat : Nat) = ((u % 128 + 128 : Nat) : Int) := by
  have h1 : ((((u % 256 : Nat) : Int) % 2 ^ IntKind.u8.bits).toNat ||| ((128 : Int) % 2 ^ IntKind.u8.bits).toNat : Nat) = u % 128 + 128 := by
    have h2 : (((u % 256 : Nat) : Int) % 2 ^ IntKind.u8.bits).toNat = u % 256 := by simp [IntKind.bits]; omega
    have h3 : ((128 : Int) % 2 ^ IntKind.u8.bits).toNat = 128 := rfl
    rw [h2, h3, or128 _ (by omega)]
    omega
  rw [h1, wrap_u8]
  congr 1
  omega
theorem shr7 (u : Nat) : (u : Int).fdiv (2 ^ (min (7 : Int).toNat IntKind.u64.bits)) = ((u / 128 : Nat) : Int) := by
  have : (2 : Int) ^ (min (7 : Int).toNat IntKind.u64.bits) = 128 := rfl
  rw [this, Int.fdiv_eq_ediv_of_nonneg _ (by omega)]
  omega
/-- what an own row of bytes is once more bytes were appended -/
def Grew (e : TypeId) (l : List UInt8) (r : AV) (hs : List Blk) : Prop := ∃ v', r = .own 0 v' ∧ hs = [.row v' e 1 l.length (byts l)]
set_option maxRecDepth 100000 in
set_option maxHeartbeats 2000000 in
theorem unsigned_ag (v : Value) (l : List UInt8) (n : Nat) (hn : n < 2 ^ 64) (hl : l.length ≤ 1099511627776) :
    AG Try.prog 206 [.own 0 v, .c (.lit (.int .u64 (n : Int)))] [.row v 5 1 l.length (byts l)] (Grew 5 (l ++ uv n)) := by
  have hul := uv_len64 hn
  refine ag_enter 1 tok Try.func206 Try.ntmps206 Try.results206 rfl (by kernel_rfl) rfl fun F => ?_
  repeat (first | refine gG ?_ | refine zAp (fun _ => ?_))
  refine x_loop [0, 1, 5, 6, 7, 8, 9, 10, 11, 12, 13, 14] (fun y : Nat × List UInt8 × Value => [(1, .c (.lit (.int .u64 (y.1 : Int)))), (0, .own 0 y.2.2)]) (fun y => [.row y.2.2 5 1 y.2.1.length (byts y.2.1)])
    (fun y => y.1 < 2 ^ 64 ∧ y.2.1 ++ uv y.1 = l ++ uv n) (fun y => y.1) (n, l, v) ⟨hn, rfl⟩ ⟨rfl, rfl, trivial⟩ rfl ?_
  rintro ⟨u, l', v'⟩ ⟨hu, hinv⟩
  dsimp only at hu hinv ⊢
  have hlen : l'.length + (uv u).length ≤ 1099511627786 := by
    have := congrArg List.length hinv
    simp only [List.length_append] at this
    omega
  repeat (first | refine gG ?_ | refine zAp (fun _ => ?_))
  refine x_cond rfl (fun h => ?_) (fun h => ?_)
  · have hu' : ¬ u < 128 := by have : (128 : Int) ≤ (u : Int) := of_decide_eq_true h
                               omega
    rw [uv_big hu'] at hinv hlen
    simp only [List.length_cons] at hlen
    repeat (first | refine gG ?_ | refine zAp (fun _ => ?_))
    refine lo_conv tok rfl rfl rfl rfl (wrap_u8 u) ?_
    repeat (first | refine gG ?_ | refine zAp (fun _ => ?_))
    refine lo_or rfl rfl (or_u8 u) ?_
    repeat (first | refine gG ?_ | refine zAp (fun _ => ?_))
    refine lo_shr rfl rfl (by omega) (shr7 u) ?_
    repeat (first | refine gG ?_ | refine zAp (fun _ => ?_))
    exact ⟨(u / 128, l' ++ [UInt8.ofNat (u % 128 + 128)], _), ⟨by simp only; omega, by simpa using hinv⟩, by simp only; omega, x_wkd 1 ⟨rfl, rfl, trivial⟩ (by simp only [byts, List.map_append, List.map_cons, List.map_nil, ← u8_of (show u % 128 + 128 < 256 by omega), List.length_append, List.length_cons, List.length_nil]; rfl) (by repeat (first | exact ag_refl | refine ag_upd rfl ?_ | refine ag_at rfl rfl ?_))⟩
  · have hu' : u < 128 := by have : ¬ (128 : Int) ≤ (u : Int) := of_decide_eq_false h
                             omega
    rw [uv_small hu'] at hinv hlen
    simp only [List.length_cons, List.length_nil] at hlen
    repeat (first | refine gG ?_ | refine zAp (fun _ => ?_))
    refine lo_conv tok rfl rfl rfl rfl (wrap_u8 u) ?_
    repeat (first | refine gG ?_ | refine zAp (fun _ => ?_))
    refine zG ?_
    refine ⟨_, rfl, ?_⟩
    rw [← hinv]
    have hb : T.lit (.int .u8 ((u % 256 : Nat) : Int)) = bytT (UInt8.ofNat u) := by rw [Nat.mod_eq_of_lt (by omega)]; exact u8_of (by omega)
    simp only [byts, List.map_append, List.map_cons, List.map_nil, ← hb, List.length_append, List.length_cons, List.length_nil]
end Go.Proofs.Ythgackidonocpaa
namespace Go.Proofs.Ythgackidonocpaa
open Go.RowKit
inductive V where
  | mk (kind num : Int) (text : ByteArray) (args : List V)
mutual
def V.ts : V → List T
  | .mk k n t l => [.lit (.int .i64 k), .lit (.int .i64 n), .lit (.string t), .row l.length 4 (V.all l)]
def V.all : List V → List T
  | [] => []
  | v :: r => v.ts ++ V.all r
end
theorem V.all_eq : ∀ l : List V, V.all l = l.flatMap V.ts
  | [] => rfl
  | v :: l => by rw [V.all, V.all_eq l]; rfl
theorem V.ts_len : ∀ v : V, v.ts.length = 4
  | .mk _ _ _ _ => rfl
def V.row (l : List V) : T := .row l.length 4 (V.all l)
def V.t (v : V) : T := .agg v.ts
mutual
def V.same : V → V → Bool
  | .mk k n t l, .mk k' n' t' l' => decide (k = k') && decide (n = n') && decide (t = t') && V.sames l l'
def V.sames : List V → List V → Bool
  | [], [] => true
  | v :: l, v' :: l' => v.same v' && V.sames l l'
  | _, _ => false
end
theorem V.at {l : List V} {k : Nat} {v : V} (h : l[k]? = some v) : ((V.all l).drop (k * 4)).take 4 = v.ts := by rw [V.all_eq]; exact flat_at V.ts 4 V.ts_len h
/-- all pairs up to the first that is not alike -/
def eqBy {α β : Type} (p : α → β → Bool) : List α → List β → Bool
  | [], [] => true
  | a :: l, b :: r => p a b && eqBy p l r
  | _, _ => false
mutual
def V.size : V → Nat
  | .mk _ _ _ l => V.sizes l + 1
def V.sizes : List V → Nat
  | [] => 0
  | v :: r => v.size + V.sizes r
end
theorem V.size_mem {v : V} : ∀ {l : List V}, v ∈ l → v.size ≤ V.sizes l
  | [], h => by simp at h
  | x :: l, h => by
    simp only [V.sizes]
    rcases List.mem_cons.1 h with rfl | h
    · omega
    · have := V.size_mem h; omega
theorem V.len_sizes : ∀ l : List V, l.length ≤ V.sizes l
  | [] => by simp [V.sizes]
  | .mk _ _ _ _ :: l => by have := V.len_sizes l; simp only [V.sizes, V.size, List.length_cons]; omega
theorem V.ind {P : V → Prop} (h : ∀ k n t l, (∀ v ∈ l, P v) → P (.mk k n t l)) : ∀ v, P v := by
  have : ∀ (N : Nat) (v : V), v.size ≤ N → P v := by
    intro N
    induction N with
    | zero => intro v hv; cases v; simp [V.size] at hv
    | succ N ih =>
      intro v hv
      cases v with
      | mk k n t l =>
        refine h k n t l fun x hx => ih x ?_
        have := V.size_mem hx
        simp only [V.size] at hv
        omega
  exact fun v => this v.size v (Nat.le_refl _)
end Go.Proofs.Ythgackidonocpaa
namespace Go.Proofs.Ythgackidonocpaa
open Go.RowKit
theorem V.all_app (l r : List V) : V.all (l ++ r) = V.all l ++ V.all r := by simp [V.all_eq]
theorem V.all_one (v : V) : V.all [v] = v.ts := by simp [V.all]
theorem V.all_snoc {l : List V} {k : Nat} {a : V} (h : l[k]? = some a) : V.all (l.take (k + 1)) = V.all (l.take k) ++ a.ts := by
  obtain ⟨h1, rfl⟩ := List.getElem?_eq_some_iff.1 h
  rw [List.take_succ_eq_append_getElem h1, V.all_app, V.all_one]
end Go.Proofs.Ythgackidonocpaa
namespace Go.Proofs.Ythgackidonocpaa
open Go.RowKit
/-- it is a bool -/
def Tell (t : T) : Prop := ∃ b : Bool, t = .lit (.bool b)
theorem nth {α : Type} {l : List α} {k : Nat} (h : k < l.length) : ∃ a, l[k]? = some a := ⟨_, List.getElem?_eq_getElem h⟩
def V.args : V → List V
  | .mk _ _ _ l => l
theorem V.sizes_app (l r : List V) : V.sizes (l ++ r) = V.sizes l + V.sizes r := by
  induction l with
  | nil => simp [V.sizes]
  | cons v l ih => simp only [List.cons_append, V.sizes, ih]; omega
theorem V.sizes_flat : ∀ l : List V, V.sizes (l.flatMap V.args) + l.length = V.sizes l
  | [] => rfl
  | .mk _ _ _ a :: l => by
    have := V.sizes_flat l
    simp only [List.flatMap_cons, V.args, V.sizes_app, V.sizes, V.size, List.length_cons]
    omega
theorem V.take_sizes (l : List V) (k : Nat) : V.sizes (l.take k) ≤ V.sizes l := by
  have := V.sizes_app (l.take k) (l.drop k)
  rw [List.take_append_drop] at this
  omega
theorem flat_snoc' {α β : Type} (f : α → List β) {l : List α} {k : Nat} {a : α} (h : l[k]? = some a) : (l.take (k + 1)).flatMap f = (l.take k).flatMap f ++ f a := by
  obtain ⟨h1, rfl⟩ := List.getElem?_eq_some_iff.1 h
  rw [List.take_succ_eq_append_getElem h1, List.flatMap_append]
  simp
set_option maxRecDepth 100000 in
set_option maxHeartbeats 2000000 in
theorem valueSmall_af (v : V) (hv : v.size ≤ 1048576) : AF Try.prog 14 [v.t] Tell := by
  obtain ⟨k0, n0, t0, l0⟩ := v
  refine af_enter tok Try.func14 Try.ntmps14 Try.results14 rfl (by kernel_rfl) rfl rfl fun F hX => ?_
  repeat (first | refine gG ?_ | refine zN1 (fun hlen => ?_) | refine zN2 (fun hlen => ?_) | refine zAl (fun _ => ?_) | refine zBx (fun _ => ?_) | refine zAp (fun _ => ?_))
  rename_i b0
  refine x_loop [2, 3, 4, 5, 6, 8, 11, 12, 13, 14, 15, 16, 17, 18, 19, 20, 21, 22, 23, 24, 25, 26, 27, 28, 29, 30, 31, 32, 33, 34, 35, 36, 37] (fun y : List V × Nat × Nat => [(3, .c (V.row y.1)), (4, .c (.lit (.int .i64 (y.2.1 : Nat)))), (5, .c (.lit (.int .i64 (y.2.2 : Nat))))]) (fun _ => [.box b0 24 [.c (.lit (.int .i64 k0)), .c (.lit (.int .i64 n0)), .c (.lit (.string t0)), .c (V.row l0)]])
    (fun y => V.sizes y.1 ≤ 1048576 ∧ y.2.1 ≤ 3000 ∧ y.2.2 ≤ 301) (fun y => 302 - y.2.2) ([.mk k0 n0 t0 l0], 0, 0) ⟨by simpa [V.sizes] using hv, by simp, by simp⟩ ⟨rfl, rfl, rfl, trivial⟩ rfl ?_
  rintro ⟨l, n, dp⟩ ⟨hl, hn, hdp⟩
  dsimp only at hl hn hdp ⊢
  have hll := V.len_sizes l
  repeat (first | refine gG ?_ | refine zN1 (fun hlen => ?_) | refine zN2 (fun hlen => ?_) | refine zAl (fun _ => ?_) | refine zBx (fun _ => ?_) | refine zAp (fun _ => ?_))
  refine x_cond rfl (fun h => ?_) (fun h => ?_)
  · repeat (first | refine gG ?_ | refine zN1 (fun hlen => ?_) | refine zN2 (fun hlen => ?_) | refine zAl (fun _ => ?_) | refine zBx (fun _ => ?_) | refine zAp (fun _ => ?_))
    refine lo_add rfl rfl (r := ((n + l.length : Nat) : Int)) (by rw [IntWalk.i64_in _ (by omega)]; omega) ?_
    cases d1 : decide ((300 : Int) < (dp : Int))
    · cases d2 : decide ((3000 : Int) < ((n + l.length : Nat) : Int))
      · have hd1 : ¬ (300 : Int) < (dp : Int) := of_decide_eq_false d1
        have hd2 : ¬ (3000 : Int) < ((n + l.length : Nat) : Int) := of_decide_eq_false d2
        repeat (first | refine gG ?_ | refine zN1 (fun hlen => ?_) | refine zN2 (fun hlen => ?_) | refine zAl (fun _ => ?_) | refine zBx (fun _ => ?_) | refine zAp (fun _ => ?_))
        refine x_own 6 24 4 rfl rfl rfl rfl rfl ?_
        refine x_loop [6, 8, 28, 29, 30, 31, 32, 33, 34, 35, 36] (fun y : Nat × Value => [(28, .c (.lit (.int .i64 (y.1 : Nat)))), (6, .own 1 y.2)]) (fun y => [.box b0 24 [.c (.lit (.int .i64 k0)), .c (.lit (.int .i64 n0)), .c (.lit (.string t0)), .c (V.row l0)], .row y.2 24 4 ((l.take y.1).flatMap V.args).length (V.all ((l.take y.1).flatMap V.args))])
          (fun y => y.1 ≤ l.length) (fun y => l.length - y.1) (0, .slice none 0 0) (Nat.zero_le _) ⟨rfl, rfl, trivial⟩ rfl ?_
        rintro ⟨k, v⟩ hk
        dsimp only at hk ⊢
        repeat (first | refine gG ?_ | refine zN1 (fun hlen => ?_) | refine zN2 (fun hlen => ?_) | refine zAl (fun _ => ?_) | refine zBx (fun _ => ?_) | refine zAp (fun _ => ?_))
        refine x_cond rfl (fun h => ?_) (fun h => ?_)
        · have hk' : k < l.length := by simpa using h
          obtain ⟨a, ha⟩ := nth hk'
          have hsn := flat_snoc' V.args ha
          have hsz : ((l.take k).flatMap V.args).length + a.args.length ≤ 1048576 := by
            have h1 := V.len_sizes ((l.take (k + 1)).flatMap V.args)
            have h2 := V.sizes_flat (l.take (k + 1))
            have h3 := V.take_sizes l (k + 1)
            rw [hsn] at h1 h2
            rw [List.length_append] at h1
            omega
          repeat (first | refine gG ?_ | refine zN1 (fun hlen => ?_) | refine zN2 (fun hlen => ?_) | refine zAl (fun _ => ?_) | refine zBx (fun _ => ?_) | refine zAp (fun _ => ?_))
          refine zIx (k) (hk') ?_
          repeat (first | refine gG ?_ | refine zN1 (fun hlen => ?_) | refine zN2 (fun hlen => ?_) | refine zAl (fun _ => ?_) | refine zBx (fun _ => ?_) | refine zAp (fun _ => ?_))
          refine zEl (V.at ha) (V.ts_len a) ?_
          obtain ⟨ka, na, ta, la⟩ := a
          simp only [V.args] at hsz hsn
          repeat (first | refine gG ?_ | refine zN1 (fun hlen => ?_) | refine zN2 (fun hlen => ?_) | refine zAl (fun _ => ?_) | refine zBx (fun _ => ?_) | refine zAp (fun _ => ?_))
          exact ⟨(k + 1, _), hk', by simp only; omega, x_wkd 2 ⟨rfl, rfl, trivial⟩ (by simp only [hsn, V.all_app, List.length_append]; rfl) (by repeat (first | exact ag_refl | refine ag_upd rfl ?_ | refine ag_at rfl rfl ?_))⟩
        · have hk' : k = l.length := by have : ¬ k < l.length := by simpa using h
                                        omega
          subst hk'
          repeat (first | refine gG ?_ | refine zN1 (fun hlen => ?_) | refine zN2 (fun hlen => ?_) | refine zAl (fun _ => ?_) | refine zBx (fun _ => ?_) | refine zAp (fun _ => ?_))
          refine ⟨(l.flatMap V.args, n + l.length, dp + 1), ⟨?_, by simp only; omega, by simp only; omega⟩, by simp only; omega, (wk_frz hX 3 rfl rfl rfl rfl).trans (x_wkd 1 ⟨?_, rfl, rfl, trivial⟩ rfl (by repeat (first | exact ag_refl | refine ag_upd rfl ?_ | refine ag_at rfl rfl ?_)))⟩
          · have := V.sizes_flat l; simp only; omega
          · simp only [List.take_length]; rfl
      · repeat (first | refine gG ?_ | refine zN1 (fun hlen => ?_) | refine zN2 (fun hlen => ?_) | refine zAl (fun _ => ?_) | refine zBx (fun _ => ?_) | refine zAp (fun _ => ?_))
        first | refine zR ?_ | refine zQ ?_
        exact ⟨_, rfl⟩
    · repeat (first | refine gG ?_ | refine zN1 (fun hlen => ?_) | refine zN2 (fun hlen => ?_) | refine zAl (fun _ => ?_) | refine zBx (fun _ => ?_) | refine zAp (fun _ => ?_))
      first | refine zR ?_ | refine zQ ?_
      exact ⟨_, rfl⟩
  · repeat (first | refine gG ?_ | refine zN1 (fun hlen => ?_) | refine zN2 (fun hlen => ?_) | refine zAl (fun _ => ?_) | refine zBx (fun _ => ?_) | refine zAp (fun _ => ?_))
    first | refine zR ?_ | refine zQ ?_
    exact ⟨_, rfl⟩
set_option maxRecDepth 100000 in
set_option maxHeartbeats 1000000 in
theorem valuesSmall_af (l : List V) (hl : ∀ v ∈ l, v.size ≤ 1048576) (hn : l.length ≤ 1048576) : AF Try.prog 96 [V.row l] Tell := by
  refine af_enter tok Try.func96 Try.ntmps96 Try.results96 rfl (by kernel_rfl) rfl rfl fun F hX => ?_
  repeat (first | refine gG ?_ | refine zN1 (fun hlen => ?_) | refine zN2 (fun hlen => ?_) | refine zAl (fun _ => ?_))
  refine x_loop [2, 4, 7, 8, 9, 10, 11, 12, 13, 14] (fun k : Nat => [(7, .c (.lit (.int .i64 k)))]) (fun _ => []) (fun k => k ≤ l.length) (fun k => l.length - k) 0 (Nat.zero_le _) ⟨rfl, trivial⟩ rfl fun k hk => ?_
  repeat (first | refine gG ?_ | refine zN1 (fun hlen => ?_) | refine zN2 (fun hlen => ?_) | refine zAl (fun _ => ?_))
  refine x_cond rfl (fun h => ?_) (fun h => ?_)
  · have hk' : k < l.length := by simpa using h
    obtain ⟨a, ha⟩ := nth hk'
    have hs := valueSmall_af a (hl a (List.mem_of_getElem? ha))
    repeat (first | refine gG ?_ | refine zN1 (fun hlen => ?_) | refine zN2 (fun hlen => ?_) | refine zAl (fun _ => ?_))
    refine zIx (k) (hk') ?_
    repeat (first | refine gG ?_ | refine zN1 (fun hlen => ?_) | refine zN2 (fun hlen => ?_) | refine zAl (fun _ => ?_))
    refine zEl (V.at ha) (V.ts_len a) ?_
    obtain ⟨ka, na, ta, la⟩ := a
    repeat (first | refine gG ?_ | refine zN1 (fun hlen => ?_) | refine zN2 (fun hlen => ?_) | refine zAl (fun _ => ?_))
    refine zCall (hs) ?_
    rintro _ ⟨b, rfl⟩
    repeat (first | refine gG ?_ | refine zN1 (fun hlen => ?_) | refine zN2 (fun hlen => ?_) | refine zAl (fun _ => ?_))
    refine x_cond rfl (fun h => ?_) (fun h => ?_)
    · repeat (first | refine gG ?_ | refine zN1 (fun hlen => ?_) | refine zN2 (fun hlen => ?_) | refine zAl (fun _ => ?_))
      first | refine zR ?_ | refine zQ ?_
      exact ⟨_, rfl⟩
    · repeat (first | refine gG ?_ | refine zN1 (fun hlen => ?_) | refine zN2 (fun hlen => ?_) | refine zAl (fun _ => ?_))
      exact ⟨k + 1, hk', by omega, x_wkd 0 ⟨rfl, trivial⟩ rfl (by repeat (first | exact ag_refl | refine ag_upd rfl ?_ | refine ag_at rfl rfl ?_))⟩
  · repeat (first | refine gG ?_ | refine zN1 (fun hlen => ?_) | refine zN2 (fun hlen => ?_) | refine zAl (fun _ => ?_))
    first | refine zR ?_ | refine zQ ?_
    exact ⟨_, rfl⟩
end Go.Proofs.Ythgackidonocpaa
namespace Go.Proofs.Ythgackidonocpaa
open Go.RowKit
/-- 0, -1, 1, -2, 2 and so on asq 0, 1, 2, 3, 4 -/
def zz (n : Int) : Nat := if 0 ≤ n then (2 * n).toNat else (2 * (-n - 1) + 1).toNat
def inI (n : Int) : Prop := -9223372036854775808 ≤ n ∧ n ≤ 9223372036854775807
theorem zz_lt {n : Int} (h : inI n) : zz n < 2 ^ 64 := by
  unfold zz; unfold inI at h
  split <;> omega
/-- a number's lowest byte -/
def kb (k : Int) : UInt8 := UInt8.ofNat (k % 256).toNat
mutual
def V.bytes : V → List UInt8
  | .mk k n t l => kb k :: (uv (zz n) ++ (uv t.size ++ (t.data.toList ++ (uv l.length ++ V.bytesAll l))))
def V.bytesAll : List V → List UInt8
  | [] => []
  | v :: r => v.bytes ++ V.bytesAll r
end
theorem V.bytesAll_eq : ∀ l : List V, V.bytesAll l = l.flatMap V.bytes
  | [] => rfl
  | v :: l => by rw [V.bytesAll, V.bytesAll_eq l]; rfl
mutual
/-- every number is in range -/
def V.ok : V → Prop
  | .mk _ n _ l => inI n ∧ V.oks l
def V.oks : List V → Prop
  | [] => True
  | v :: r => v.ok ∧ V.oks r
end
theorem V.oks_iff : ∀ l : List V, V.oks l ↔ ∀ v ∈ l, v.ok
  | [] => by simp [V.oks]
  | v :: l => by simp [V.oks, V.oks_iff l]
mutual
/-- the bytes of its texts -/
def V.txt : V → Nat
  | .mk _ _ t l => t.size + V.txts l
def V.txts : List V → Nat
  | [] => 0
  | v :: r => v.txt + V.txts r
end
mutual
theorem V.bytes_len : ∀ v : V, v.ok → v.size ≤ 1048576 → v.txt ≤ 1048576 → v.bytes.length ≤ 32 * v.size + v.txt
  | .mk k n t l, ho, hs, ht => by
    simp only [V.ok, V.size, V.txt] at ho hs ht
    have h1 := uv_len64 (zz_lt ho.1)
    have h2 := uv_len64 (n := t.size) (by omega)
    have h3 := uv_len64 (n := l.length) (by have := V.len_sizes l; omega)
    have h4 := V.bytesAll_len l ho.2 (by omega) (by omega)
    simp only [V.bytes, V.size, V.txt, List.length_cons, List.length_append, sz_len]
    omega
theorem V.bytesAll_len : ∀ l : List V, V.oks l → V.sizes l ≤ 1048576 → V.txts l ≤ 1048576 → (V.bytesAll l).length ≤ 32 * V.sizes l + V.txts l
  | [], _, _, _ => by simp [V.bytesAll]
  | v :: l, ho, hs, ht => by
    simp only [V.oks, V.sizes, V.txts] at ho hs ht
    have h1 := V.bytes_len v ho.1 (by omega) (by omega)
    have h2 := V.bytesAll_len l ho.2 (by omega) (by omega)
    simp only [V.bytesAll, V.sizes, V.txts, List.length_append]
    omega
end
mutual
/-- every node of it, with how deep it lies -/
def V.every (p : V → Nat → Bool) : V → Nat → Bool
  | .mk k n t l, d => p (.mk k n t l) d && V.everys p l (d + 1)
def V.everys (p : V → Nat → Bool) : List V → Nat → Bool
  | [], _ => true
  | v :: r, d => v.every p d && V.everys p r d
end
theorem V.everys_eq (p : V → Nat → Bool) (d : Nat) : ∀ l : List V, V.everys p l d = l.all fun v => v.every p d
  | [] => rfl
  | v :: l => by rw [V.everys, V.everys_eq p d l]; rfl
def V.num : V → Int
  | .mk _ n _ _ => n
def V.kind : V → Int
  | .mk k _ _ _ => k
def V.text : V → ByteArray
  | .mk _ _ t _ => t
end Go.Proofs.Ythgackidonocpaa
namespace Go.Proofs.Ythgackidonocpaa
open Go.RowKit
structure RS where
  l : List UInt8
  bad : Bool
  dep : Nat
def dz (u : Nat) : Int := if u % 2 = 0 then ((u / 2 : Nat) : Int) else -((u / 2 : Nat) : Int) - 1
def V.zero : V := .mk 0 0 ⟨#[]⟩ []
def RS.up (s : RS) : RS := { s with dep := s.dep + 1 }
/-- how deep it is at most -/
def V.low (v : V) (d : Nat) : Bool := v.every (fun _ e => decide (e ≤ 40)) d
end Go.Proofs.Ythgackidonocpaa
