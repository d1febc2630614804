/-
  Texts of this proof, part 9: Ab35 Thb Tha Thc Thd.
-/
import Derived.Test.YtllgibfmddihgaaDoorQSchemeSays8
import Derived.Laws.Strings2
import Derived.Lib.AppendStr
import Derived.Lib.MinMax
namespace Go.Proofs.YtllgibfmddihgaaDoor
open Go.RowKit
theorem bs_data (s : ByteArray) : bs s.data.toList = s := by cases s; rfl
section
variable {P : Program} {F : Frm} {L : Tab} {d : Option Tmp} {ty : TypeId} {pos : String} {aft : Array Edge} {g : Option (Nat × Bool)} {ρ : Operand → AV} {hp : List Blk} {K : AV → List Blk → Prop}
theorem zSph {t : TypeId} {ti : TI} {x y : Operand} {l : List UInt8} {k : IntKind} {a : Int} (m : Nat) (hm : m ≤ l.length) (hK : K (.c (.lit (.string (bs (l.take m))))) hp) (hz : a = (m : Int) := by exact rfl) (hL : TabOk P L := by exact tok) (hx : ρ x = .c (.lit (.string (bs l))) := by exact rfl) (hy : ρ y = .c (.lit (.int k a)) := by exact rfl) (ht : L.look t = some ti := by exact rfl) (hd : ti.d = .string := by exact rfl) : LO P F ⟨d, .slice t x none (some y) none, ty, pos, aft, g⟩ ρ hp K := by
  refine LO.same (fun M e w he _ => ?_) hK
  have h1 := he x (by simp [Op.operands])
  rw [hx] at h1
  have h2 := he y (by simp [Op.operands])
  rw [hy] at h2
  simp only [RA, RT] at h1 h2
  subst hz
  have hsz : (bs l).size = l.length := bs_size' l
  refine ⟨.string (bs (l.take m)), ?_, by simp only [RA, RT]⟩
  have hb := run_sliceBound (P := P) (w := w) k (m : Int) l.length .sliceAlen (by omega) (by omega)
  have he : (bs l).extract 0 m = bs (l.take m) := by
    apply ByteArray.ext
    simp [bs, ByteArray.data_extract]
  simp [execOp, Instr.sliceAt, Instr.slice, Instr.sliceBounds, h1, h2, run_underlying (hL.string ht hd), hsz, hb, he]
/-- the part of an own row from the l-th element on, asq a value -/
def subV (v : Value) (l sz : Nat) : Value := match v with
  | .slice A n c => .slice (if c = l then A else A.map (·.add (l * sz))) (n - l) (c - l)
  | u => u
theorem zQs {t el : TypeId} {ti te : TI} {x y : Operand} {i n sz : Nat} {v : Value} {e : TypeId} {cs : List T} {k : IntKind} {z : Int} (l : Nat) (hl : l ≤ n) (h : K (.c (.lit (subV v l sz))) hp) (hz : z = (l : Int) := by exact rfl) (hL : TabOk P L := by exact tok) (hx : ρ x = .own i v := by exact rfl) (hi : hp[i]? = some (.row v e sz n cs) := by exact rfl) (hy : ρ y = .c (.lit (.int k z)) := by exact rfl) (ht : L.look t = some ti := by exact rfl) (hd : ti.d = .slice el := by exact rfl) (hte : L.look el = some te := by exact rfl) (hsz : te.size = sz := by exact rfl) : LO P F ⟨d, .slice t x (some y) none none, ty, pos, aft, g⟩ ρ hp K := by
  refine ⟨fun M ev w he hh => ?_⟩
  have h1 := he x (by simp [Op.operands])
  rw [hx] at h1
  simp only [RA] at h1
  have h2 := he y (by simp [Op.operands])
  rw [hy] at h2
  simp only [RA, RT] at h2
  obtain ⟨xs, ho, hxs, hone, h0⟩ := hh.at_ i _ hi
  obtain ⟨A, c, rfl, hnc, hcm⟩ := ownO_shape ho
  subst hz
  have hb := run_sliceBound (P := P) (w := w) k (l : Int) n .sliceB (by omega) (by omega)
  have hr : (execOp ev ⟨d, .slice t x (some y) none none, ty, pos, aft, g⟩).run P w = .ok (.value (.slice (if c = l then A else A.map (·.add (l * sz))) (n - l) (c - l))) w := by
    simp [execOp, Instr.sliceAt, Instr.slice, Instr.sliceBounds, h1.1, h2, run_underlying (hL.slice ht hd), hL.sizeOf hte, hb, hsz]
  rw [hr]
  exact ⟨M, _, hp, h, Ext.refl _ _, hh, by simp only [RA, RT, subV]⟩
theorem zeroCells_one {z : Array Value} (h : OneAll z.toList) (hz : 0 < z.size) (n : Nat) : OneAll (Builtin.zeroCells z n).toList := by
  intro u hu
  simp only [Builtin.zeroCells, Array.toList_map, List.mem_map, Array.mem_toList_iff, Array.mem_range] at hu
  obtain ⟨j, hj, rfl⟩ := hu
  have hm : j % z.size < z.size := Nat.mod_lt _ hz
  rw [getElem!_pos z _ hm]
  exact h _ (Array.getElem_mem_toList hm)
theorem set_same {α : Type} {l : List α} {i : Nat} {a : α} (h : l[i]? = some a) : l.set i a = l := by
  apply List.ext_getElem?
  intro j
  rw [List.getElem?_set]
  by_cases hij : i = j
  · subst hij
    rw [if_pos rfl, if_pos (List.getElem?_eq_some_iff.1 h).1, h]
  · rw [if_neg hij]
theorem lo_clear (hL : TabOk P L) {t el : TypeId} {ti te : TI} {x : Operand} {i n sz l : Nat} {v : Value} {cs : List T} (hl : l ≤ n) (hx : ρ x = .c (.lit (subV v l sz))) (hi : hp[i]? = some (.row v el sz n cs)) (ht : L.look t = some ti) (hd : ti.d = .slice el) (hte : L.look el = some te) (hsz : te.size = sz)
    (h : ∀ us : List T, us.length = (n - l) * sz → K (.c (.tup [])) (hp.set i (.row v el sz n (spl cs (l * sz) us)))) : LO P F ⟨d, .call { callee := .builtin .clear, args := #[x], argTypes := #[t] }, ty, pos, aft, g⟩ ρ hp K := by
  subst hsz
  refine ⟨fun M e w he hh => ?_⟩
  have hax := he x (by first | (simp [Op.operands]; done) | simp [Op.operands, Call.operands])
  rw [hx] at hax
  simp only [RA, RT] at hax
  obtain ⟨xs, how, hxs, hone, hsz⟩ := hh.at_ i _ hi
  obtain ⟨zv, hzv, hzc, hzs, hz1⟩ := hL.zero hte
  by_cases hnl : n - l = 0
  · obtain ⟨A, c, rfl, hnc, hcm⟩ := ownO_shape how
    have hrun : (execOp e ⟨d, .call { callee := .builtin .clear, args := #[x], argTypes := #[t] }, ty, pos, aft, g⟩).run P w = .ok (.value (.tuple #[])) w := by
      simp [execOp, resolve, invoke, builtin, Builtin.clear_, hax, subV, hnl, run_underlying (hL.slice ht hd)]
      split <;> simp_all
    rw [hrun]
    have hk := h [] (by rw [hnl]; simp)
    have hsp : spl cs (l * te.size) ([] : List T) = cs := rfl
    rw [hsp, set_same hi] at hk
    exact ⟨M, _, hp, hk, Ext.refl _ _, hh, by simp only [RA, RT, RTs]; exact ⟨[], rfl, rfl⟩⟩
  rcases how.2 with ⟨_, h0⟩ | ⟨g', o', cap, cur, hv, hg, hnc, hcm, hcur, htk⟩
  · omega
  subst hv
  have hcl : cap ≠ l := by omega
  have hlen := hxs.len
  have hxl := how.1
  obtain ⟨Z, hZ⟩ : ∃ Z, Z = (Builtin.zeroCells zv.cells (n - l)).toList := ⟨_, rfl⟩
  have hZl : Z.length = (n - l) * te.size := by rw [hZ, Array.length_toList, size_zeroCells, hzs]
  have hZ1 : OneAll Z := by rw [hZ]; exact zeroCells_one (by rw [hzc]; exact hz1) (by rw [hzs]; omega) _
  have hmul : l * te.size + (n - l) * te.size = n * te.size := by rw [← Nat.add_mul]; congr 1; omega
  have hoff : l * te.size + Z.length ≤ xs.length := by rw [hZl, hxl]; omega
  have hcl2 : o' + xs.length ≤ cur.size := by rw [hxl]; have := Nat.mul_le_mul_right te.size hnc; omega
  have hst := run_storeCells_at (P := P) g' (o' + l * te.size) el Z 0 cur w hg (by simp at hoff ⊢; omega) hZ1
  have hrun : (execOp e ⟨d, .call { callee := .builtin .clear, args := #[x], argTypes := #[t] }, ty, pos, aft, g⟩).run P w = .ok (.value (.tuple #[])) (w.setRow g' (spl cur.toList (o' + l * te.size) Z).toArray) := by
    rw [spl_eq _ _ _ (by simp at hoff ⊢; omega)]
    have hadd : (⟨g', o', none⟩ : Addr).add (l * te.size) = ⟨g', o' + l * te.size, none⟩ := by rw [box_add]
    have hsv : subV (.slice (some ⟨g', o', none⟩) n cap) l te.size = .slice (some ⟨g', o' + l * te.size, none⟩) (n - l) (cap - l) := by simp [subV, hcl, hadd]
    rw [hsv] at hax
    obtain ⟨m, hm⟩ : ∃ m, n - l = m + 1 := ⟨n - l - 1, by omega⟩
    rw [hm] at hax hZ
    simp [execOp, resolve, invoke, builtin, Builtin.clear_, hax, run_underlying (hL.slice ht hd), hzv, ← hZ] at hst ⊢
    simp [hst]
  rw [hrun]
  have hblk := setRow_heap w g' cur (spl cur.toList (o' + l * te.size) Z).toArray el _ hg
  refine ⟨M, _, _, h (Z.map T.lit) (by rw [List.length_map, hZl]), Ext.refl _ _, ?_, by simp only [RA, RT, RTs]; exact ⟨[], rfl, rfl⟩⟩
  refine hh.step i rfl rfl rfl (by simp [World.setRow]) (fun k hk hne => ?_) (Ext.refl _ _) (fun p v h1 h2 => by rw [h2] at h1; cases h1) (fun j hj => by rw [List.getElem?_set_ne (Ne.symm hj)]) (fun x' hx' => ?_)
  · have : k ≠ g' := fun e => hne _ hi (by rw [e]; rfl)
    simp [World.setRow, Array.getElem?_modify, Ne.symm this]
  · have hlt : i < hp.length := (List.getElem?_eq_some_iff.1 hi).1
    rw [List.getElem?_set_self hlt] at hx'
    obtain rfl : Blk.row (.slice (some ⟨g', o', none⟩) n cap) el te.size n (spl cs (l * te.size) (Z.map T.lit)) = x' := by injection hx'
    refine ⟨⟨spl xs (l * te.size) Z, ⟨by rw [spl_len]; exact hxl, .inr ⟨g', o', cap, (spl cur.toList (o' + l * te.size) Z).toArray, rfl, hblk, hnc, hcm, by simpa [spl_len] using hcur, ?_⟩⟩, RTs.spl hxs (lits_rt M Z), spl_one hone hZ1, hsz⟩, fun b' hb' => .inl ⟨_, hi, hb'⟩⟩
    simp only
    rw [spl_eq _ _ _ (by simp at hoff ⊢; omega), spl_eq _ _ _ hoff, ← htk]
    have hk : l * te.size + Z.length ≤ n * te.size := by rw [← hxl]; exact hoff
    have hcl3 : o' + n * te.size ≤ cur.toList.length := by rw [hxl] at hcl2; simpa using hcl2
    rw [drop_spl cur.toList Z o' (l * te.size) (by omega)]
    exact take_spl (cur.toList.drop o') Z (l * te.size) (n * te.size) hk (by rw [List.length_drop]; omega)
theorem zClr {t el : TypeId} {ti te : TI} {x : Operand} {n sz : Nat} {v : Value} {cs : List T} {hp' : List T → List Blk} (i l : Nat) (hl : l ≤ n) (h : ∀ us : List T, us.length = (n - l) * sz → K (.c (.tup [])) (hp' us)) (hL : TabOk P L := by exact tok) (hx : ρ x = .c (.lit (subV v l sz)) := by exact rfl) (hi : hp[i]? = some (.row v el sz n cs) := by exact rfl) (ht : L.look t = some ti := by exact rfl) (hd : ti.d = .slice el := by exact rfl) (hte : L.look el = some te := by exact rfl) (hsz : te.size = sz := by exact rfl)
    (hf : ∀ us, evl (hp.set i (.row v el sz n (spl cs (l * sz) us))) = some (hp' us) := by exact fun _ => rfl) : LO P F ⟨d, .call { callee := .builtin .clear, args := #[x], argTypes := #[t] }, ty, pos, aft, g⟩ ρ hp K :=
  lo_clear hL hl hx hi ht hd hte hsz fun us hu => by rw [← evl_eq (hf us)]; exact h us hu
theorem take_clear {α : Type} (cs us : List α) (k : Nat) (h : k + us.length ≤ cs.length) : (spl cs k us).take k = cs.take k := by
  rw [spl_eq _ _ _ h, List.append_assoc, List.take_append_of_le_length (by rw [List.length_take]; omega), List.take_take, Nat.min_self]
end
end Go.Proofs.YtllgibfmddihgaaDoor
namespace Go.Proofs.YtllgibfmddihgaaDoor
open Go.RowKit
def notP (p : ByteArray → Bool) (l : List ByteArray) : List ByteArray := l.filter fun a => !p a
theorem notP_len (p : ByteArray → Bool) (l : List ByteArray) : (notP p l).length ≤ l.length := List.length_filter_le _ _
theorem del_idx (p : ByteArray → Bool) : ∀ l : List ByteArray, (idxI p l = -1 ∧ notP p l = l) ∨ ∃ i : Nat, idxI p l = (i : Int) ∧ i < l.length ∧ notP p (l.take (i + 1)) = l.take i
  | [] => .inl ⟨rfl, rfl⟩
  | a :: l => by
    unfold idxI notP
    rw [List.findIdx?_cons]
    cases h : p a
    · rcases del_idx p l with ⟨h1, h2⟩ | ⟨i, h1, h2, h3⟩
      · left
        unfold idxI at h1
        unfold notP at h2
        refine ⟨?_, by simp [h, h2]⟩
        cases hf : l.findIdx? p with
        | none => simp [hf]
        | some i => rw [hf] at h1; simp at h1 <;> omega
      · right
        unfold idxI at h1
        unfold notP at h3
        refine ⟨i + 1, ?_, by simp; omega, by simp [h, h3]⟩
        cases hf : l.findIdx? p with
        | none => rw [hf] at h1; simp at h1 <;> omega
        | some k => rw [hf] at h1; simp at h1; simp [hf]; omega
    · right
      exact ⟨0, by simp, by simp, by simp [h]⟩
theorem drop_cons1 {α : Type} {l : List α} {k : Nat} {a : α} (h : l[k]? = some a) : l.drop k = a :: l.drop (k + 1) := by
  obtain ⟨h1, rfl⟩ := List.getElem?_eq_some_iff.1 h
  exact List.drop_eq_getElem_cons h1
/-- the cells while what is kept is moved to the front -/
def DelC (p : ByteArray → Bool) (l : List ByteArray) (j : Nat) (C : List T) : Prop := C.length = l.length ∧ C.take (notP p (l.take j)).length = (notP p (l.take j)).flatMap strTs ∧ C.drop j = (l.drop j).flatMap strTs
theorem str_flat_len (l : List ByteArray) : (l.flatMap strTs).length = l.length := by have := len_flat (f := strTs) (sz := 1) (fun _ => rfl) l; omega
theorem delC_start {p : ByteArray → Bool} {l : List ByteArray} {i : Nat} (hi : i < l.length) (h : notP p (l.take (i + 1)) = l.take i) : DelC p l (i + 1) (l.flatMap strTs) := by
  refine ⟨str_flat_len l, ?_, ?_⟩
  · rw [h]
    have h1 : (l.take i).length = i := by rw [List.length_take]; omega
    rw [h1]
    have := take_flat (f := strTs) (sz := 1) (fun _ => rfl) i l
    rw [Nat.mul_one] at this
    exact this
  · have := drop_flat (f := strTs) (sz := 1) (fun _ => rfl) (i + 1) l
    rw [Nat.mul_one] at this
    exact this
theorem delC_at {p : ByteArray → Bool} {l : List ByteArray} {j : Nat} {C : List T} (h : DelC p l j C) {a : ByteArray} (ha : l[j]? = some a) : C[j * 1]? = some (.lit (.string a)) := by
  have h1 : (C.drop j)[0]? = some (.lit (.string a)) := by
    rw [h.2.2, drop_cons1 ha]
    rfl
  rw [List.getElem?_drop] at h1
  simpa using h1
theorem delC_skip {p : ByteArray → Bool} {l : List ByteArray} {j : Nat} {C : List T} (h : DelC p l j C) {a : ByteArray} (ha : l[j]? = some a) (hp : p a = true) : DelC p l (j + 1) C := by
  have hn : notP p (l.take (j + 1)) = notP p (l.take j) := by
    unfold notP
    rw [List.take_add_one, ha, List.filter_append]
    simp [hp]
  refine ⟨h.1, by rw [hn]; exact h.2.1, ?_⟩
  have := congrArg (List.drop 1) h.2.2
  rw [List.drop_drop, drop_cons1 ha] at this
  simpa [strTs] using this
theorem delC_keep {p : ByteArray → Bool} {l : List ByteArray} {j : Nat} {C : List T} (h : DelC p l j C) {a : ByteArray} (ha : l[j]? = some a) (hp : p a = false) : DelC p l (j + 1) (spl C ((notP p (l.take j)).length * 1) [.lit (.string a)]) ∧ (notP p (l.take (j + 1))).length = (notP p (l.take j)).length + 1 := by
  have hj : j < l.length := (List.getElem?_eq_some_iff.1 ha).1
  have hn : notP p (l.take (j + 1)) = notP p (l.take j) ++ [a] := by
    unfold notP
    rw [List.take_add_one, ha, List.filter_append]
    simp [hp]
  have hle : (notP p (l.take j)).length ≤ j := Nat.le_trans (notP_len p _) (by rw [List.length_take]; omega)
  have hl1 : (notP p (l.take (j + 1))).length = (notP p (l.take j)).length + 1 := by rw [hn]; simp
  refine ⟨⟨?_, ?_, ?_⟩, hl1⟩
  · rw [spl_len]; exact h.1
  · rw [hl1, spl_eq _ _ _ (by have := h.1; simp; omega)]
    rw [hn, List.flatMap_append, ← h.2.1]
    simp only [Nat.mul_one]
    rw [List.take_append_of_le_length (by have := h.1; simp; omega), List.take_of_length_le (by simp; omega)]
    rfl
  · rw [spl_eq _ _ _ (by have := h.1; simp; omega)]
    have h2 := congrArg (List.drop 1) h.2.2
    rw [List.drop_drop, drop_cons1 ha] at h2
    have h3 : C.drop (j + 1) = (l.drop (j + 1)).flatMap strTs := by simpa [strTs] using h2
    rw [← h3]
    simp only [Nat.mul_one]
    have h4 : (C.take (notP p (l.take j)).length ++ [T.lit (.string a)]).length = (notP p (l.take j)).length + 1 := by have := h.1; simp; omega
    rw [List.drop_append, h4, List.drop_of_length_le (by rw [h4]; omega), List.nil_append, List.drop_drop]
    congr 1
    simp
    omega
theorem notP_skip {p : ByteArray → Bool} {l : List ByteArray} {j : Nat} {a : ByteArray} (ha : l[j]? = some a) (hp : p a = true) : notP p (l.take (j + 1)) = notP p (l.take j) := by
  unfold notP
  rw [List.take_add_one, ha, List.filter_append]
  simp [hp]
set_option maxRecDepth 100000 in
set_option maxHeartbeats 2000000 in
theorem idxStrs_af (p : ByteArray → Bool) (f : FuncId) (cap : List T) (l : List ByteArray) (hf : ∀ a ∈ l, AF Tryd.prog f (.lit (.string a) :: cap) (· = .lit (.bool (p a)))) :
    AF Tryd.prog 165 [strRow l, .fn (.func f) cap] (· = .lit (.int .i64 (idxI p l))) := by
  refine af_enter tok Tryd.func165 Tryd.ntmps165 Tryd.results165 rfl (by kernel_rfl) rfl rfl fun F hX => ?_
  repeat (first | refine gG ?_ | refine zN1 (fun hlen => ?_) | refine zN2 (fun hlen => ?_))
  refine x_loop [4, 5, 8, 9, 10, 11, 12, 13, 14, 15, 16, 17, 18] (fun k : Nat => [(8, .c (.lit (.int .i64 k)))]) (fun _ => []) (fun k => k ≤ l.length ∧ idxAt p l k) (fun k => l.length - k) 0 ⟨Nat.zero_le _, idxAt_zero p l⟩ ⟨rfl, trivial⟩ rfl fun k hk => ?_
  repeat (first | refine gG ?_ | refine zN1 (fun hlen => ?_) | refine zN2 (fun hlen => ?_))
  refine x_cond rfl (fun h => ?_) (fun h => ?_)
  · have hk' : k < l.length := by simpa using h
    obtain ⟨a, ha⟩ := nth hk'
    have hs := hf a (List.mem_of_getElem? ha)
    have hat := str_at ha
    rw [← Nat.mul_one k] at hat
    repeat (first | refine gG ?_ | refine zN1 (fun hlen => ?_) | refine zN2 (fun hlen => ?_))
    refine zIx k hk' ?_
    repeat (first | refine gG ?_ | refine zN1 (fun hlen => ?_) | refine zN2 (fun hlen => ?_))
    refine zEl1 hat ?_
    repeat (first | refine gG ?_ | refine zN1 (fun hlen => ?_) | refine zN2 (fun hlen => ?_))
    refine v_callc hs rfl (by first | exact rzs_cons rz_c rzs_self | (repeat (first | exact rzs_nil | apply rzs_cons | exact rz_c | exact rz_nil rfl | apply rz_agg | exact rz_own rfl | apply rz_fn | exact rz_ptr rfl | apply rz_tup))) ?_
    rintro _ rfl
    cases hp : p a
    · repeat (first | refine gG ?_ | refine zN1 (fun hlen => ?_) | refine zN2 (fun hlen => ?_))
      exact ⟨k + 1, ⟨hk', idxAt_no hk.2 ha hp⟩, by omega, x_wkd 0 ⟨rfl, trivial⟩ rfl (by repeat (first | exact ag_refl | refine ag_upd rfl ?_ | refine ag_at rfl rfl ?_))⟩
    · repeat (first | refine gG ?_ | refine zN1 (fun hlen => ?_) | refine zN2 (fun hlen => ?_))
      first | refine zR ?_ | refine zQ ?_
      rw [idxAt_yes hk.2 ha hp]; rfl
  · have hk' : k = l.length := by have : ¬ k < l.length := by simpa using h
                                  omega
    subst hk'
    repeat (first | refine gG ?_ | refine zN1 (fun hlen => ?_) | refine zN2 (fun hlen => ?_))
    first | refine zR ?_ | refine zQ ?_
    rw [idxAt_end hk.2]; rfl
set_option maxRecDepth 100000 in
set_option maxHeartbeats 2000000 in
theorem idxStrs_ag (p : ByteArray → Bool) (f : FuncId) (b c : Nat) (M : List (Value × T)) (l : List ByteArray) (v : Value) (hf : ∀ a ∈ l, AG Tryd.prog f [.c (.lit (.string a)), .ptr 0 b 0] [.box b 194 [.own 1 (.map (some c))], .mp c M] (fun r hs => r = .c (.lit (.bool (p a))) ∧ hs = [.box b 194 [.own 1 (.map (some c))], .mp c M])) :
    AG Tryd.prog 165 [.own 2 v, .fn (.func f) [.ptr 0 b 0]] [.box b 194 [.own 1 (.map (some c))], .mp c M, .row v 9 1 l.length (l.flatMap strTs)] (fun r hs => r = .c (.lit (.int .i64 (idxI p l))) ∧ hs = [.box b 194 [.own 1 (.map (some c))], .mp c M, .row v 9 1 l.length (l.flatMap strTs)]) := by
  refine ag_enter 3 tok Tryd.func165 Tryd.ntmps165 Tryd.results165 rfl (by kernel_rfl) rfl fun F => ?_
  repeat (first | refine gG ?_ | refine zN1 (fun hlen => ?_) | refine zN2 (fun hlen => ?_))
  refine x_loop [4, 5, 8, 9, 10, 11, 12, 13, 14, 15, 16, 17, 18] (fun k : Nat => [(8, .c (.lit (.int .i64 k)))]) (fun _ => [.box b 194 [.own 1 (.map (some c))], .mp c M, .row v 9 1 l.length (l.flatMap strTs)]) (fun k => k ≤ l.length ∧ idxAt p l k) (fun k => l.length - k) 0 ⟨Nat.zero_le _, idxAt_zero p l⟩ ⟨rfl, trivial⟩ rfl fun k hk => ?_
  repeat (first | refine gG ?_ | refine zN1 (fun hlen => ?_) | refine zN2 (fun hlen => ?_))
  refine x_cond rfl (fun h => ?_) (fun h => ?_)
  · have hk' : k < l.length := by simpa using h
    obtain ⟨a, ha⟩ := nth hk'
    have hs := hf a (List.mem_of_getElem? ha)
    have hat := str_at ha
    rw [← Nat.mul_one k] at hat
    repeat (first | refine gG ?_ | refine zN1 (fun hlen => ?_) | refine zN2 (fun hlen => ?_))
    refine zIxo k hk' ?_
    repeat (first | refine gG ?_ | refine zN1 (fun hlen => ?_) | refine zN2 (fun hlen => ?_))
    refine zElo1 hat ?_
    repeat (first | refine gG ?_ | refine zN1 (fun hlen => ?_) | refine zN2 (fun hlen => ?_))
    refine zCallG [0, 1] hs ?_
    rintro _ _ ⟨rfl, rfl⟩
    refine ⟨.c _, _, re_refl, rfl, rfl, ?_⟩
    cases hp : p a
    · repeat (first | refine gG ?_ | refine zN1 (fun hlen => ?_) | refine zN2 (fun hlen => ?_))
      exact ⟨k + 1, ⟨hk', idxAt_no hk.2 ha hp⟩, by omega, x_wkd 3 ⟨rfl, trivial⟩ rfl (by repeat (first | exact ag_refl | refine ag_upd rfl ?_ | refine ag_at rfl rfl ?_))⟩
    · repeat (first | refine gG ?_ | refine zN1 (fun hlen => ?_) | refine zN2 (fun hlen => ?_))
      refine zG ?_
      exact ⟨by rw [idxAt_yes hk.2 ha hp]; rfl, rfl⟩
  · have hk' : k = l.length := by have : ¬ k < l.length := by simpa using h
                                  omega
    subst hk'
    repeat (first | refine gG ?_ | refine zN1 (fun hlen => ?_) | refine zN2 (fun hlen => ?_))
    refine zG ?_
    exact ⟨by rw [idxAt_end hk.2]; rfl, rfl⟩
set_option maxRecDepth 100000 in
set_option maxHeartbeats 2000000 in
theorem delStrs_ag (p : ByteArray → Bool) (f : FuncId) (t : T) (l : List ByteArray) (v : Value) (hl : l.length ≤ 1048576) (hf : ∀ a ∈ l, AF Tryd.prog f [.lit (.string a), t] (· = .lit (.bool (p a)))) :
    AG Tryd.prog 128 [.own 0 v, .fn (.func f) [.c t]] [.row v 9 1 l.length (l.flatMap strTs)] (fun r hs => ∃ v', r = .own 0 v' ∧ hs = [.row v' 9 1 (notP p l).length ((notP p l).flatMap strTs)]) := by
  have hix := idxStrs_af p f [t] l hf
  have hd := del_idx p l
  generalize idxI p l = ix at *
  refine ag_enter 3 tok Tryd.func128 Tryd.ntmps128 Tryd.results128 rfl (by kernel_rfl) rfl fun F => ?_
  repeat (first | refine gG ?_ | refine zN1 (fun hlen => ?_) | refine zN2 (fun hlen => ?_))
  refine zPeek hix ?_
  rintro _ rfl
  refine ⟨rfl, ?_⟩
  clear hix
  rcases hd with ⟨rfl, h2⟩ | ⟨i, rfl, hi, h2⟩
  · repeat (first | refine gG ?_ | refine zN1 (fun hlen => ?_) | refine zN2 (fun hlen => ?_))
    refine zG ?_
    exact ⟨_, rfl, by rw [h2]⟩
  have d0 : decide (((i : Nat) : Int) = -1) = false := decide_eq_false (by omega)
  have hn0 : (notP p (l.take (i + 1))).length = i := by rw [h2, List.length_take]; omega
  have hst := delC_start hi h2
  clear h2
  repeat (first | refine gG ?_ | refine zN1 (fun hlen => ?_) | refine zN2 (fun hlen => ?_))
  refine x_loop [5, 6, 7, 16, 17, 18, 19, 20, 21, 22, 23, 24, 25, 26, 27, 28, 29, 30, 31, 32, 33, 34, 35] (fun y : Nat × List T => [(6, .c (.lit (.int .i64 (y.1 : Nat)))), (5, .c (.lit (.int .i64 ((notP p (l.take y.1)).length : Nat))))]) (fun y => [.row v 9 1 l.length y.2]) (fun y => y.1 ≤ l.length ∧ DelC p l y.1 y.2) (fun y => l.length - y.1) (i + 1, l.flatMap strTs) ⟨by omega, hst⟩ ⟨rfl, by rw [hn0]; rfl, trivial⟩ rfl ?_
  clear hst hn0 d0 hi
  rintro ⟨j, C⟩ ⟨hj, hC⟩
  dsimp only at hj hC ⊢
  repeat (first | refine gG ?_ | refine zN1 (fun hlen => ?_) | refine zN2 (fun hlen => ?_))
  refine x_cond rfl (fun h => ?_) (fun h => ?_)
  · have hj' : j < l.length := by simpa using h
    obtain ⟨a, ha⟩ := nth hj'
    have hs := hf a (List.mem_of_getElem? ha)
    have hat := delC_at hC ha
    have hle : (notP p (l.take j)).length ≤ j := Nat.le_trans (notP_len p _) (by rw [List.length_take]; omega)
    have hk := fun hp => delC_keep hC ha (p := p) hp
    have hsk := fun hp => delC_skip hC ha (p := p) hp
    have hsl := fun hp => notP_skip ha (p := p) hp
    have hCl := hC.1
    clear h ha hC hf
    repeat (first | refine gG ?_ | refine zN1 (fun hlen => ?_) | refine zN2 (fun hlen => ?_))
    refine zIxo j hj' ?_
    repeat (first | refine gG ?_ | refine zN1 (fun hlen => ?_) | refine zN2 (fun hlen => ?_))
    refine zElo1 hat ?_
    repeat (first | refine gG ?_ | refine zN1 (fun hlen => ?_) | refine zN2 (fun hlen => ?_))
    refine zCall hs ?_
    rintro _ rfl
    clear hs
    cases hp : p a
    · obtain ⟨h1, h2⟩ := hk hp
      clear hk hsk hp hat hsl
      repeat (first | refine gG ?_ | refine zN1 (fun hlen => ?_) | refine zN2 (fun hlen => ?_))
      refine zIxo (notP p (l.take j)).length (show (notP p (l.take j)).length < l.length by omega) ?_
      repeat (first | refine gG ?_ | refine zN1 (fun hlen => ?_) | refine zN2 (fun hlen => ?_))
      refine zSe (us := [.lit (.string a)]) rfl (show (notP p (l.take j)).length * 1 + 1 ≤ C.length by rw [hCl]; omega) ?_
      repeat (first | refine gG ?_ | refine zN1 (fun hlen => ?_) | refine zN2 (fun hlen => ?_))
      exact ⟨(j + 1, _), ⟨hj', h1⟩, by simp only; omega, x_wkd 1 ⟨rfl, by rw [h2]; rfl, trivial⟩ rfl (by repeat (first | exact ag_refl | refine ag_upd rfl ?_ | refine ag_at rfl rfl ?_))⟩
    · have h1 := hsk hp
      have h2 : (notP p (l.take (j + 1))).length = (notP p (l.take j)).length := by rw [hsl hp]
      clear hk hsk hat hsl
      repeat (first | refine gG ?_ | refine zN1 (fun hlen => ?_) | refine zN2 (fun hlen => ?_))
      exact ⟨(j + 1, C), ⟨hj', h1⟩, by simp only; omega, x_wkd 1 ⟨rfl, by rw [h2]; rfl, trivial⟩ rfl (by repeat (first | exact ag_refl | refine ag_upd rfl ?_ | refine ag_at rfl rfl ?_))⟩
  · have hj' : j = l.length := by
      have : ¬ j < l.length := by simpa using h
      omega
    subst hj'
    clear h hf
    obtain ⟨hCl, hCt, _⟩ := hC
    rw [List.take_length] at hCt ⊢
    have hnl := notP_len p l
    repeat (first | refine gG ?_ | refine zN1 (fun hlen => ?_) | refine zN2 (fun hlen => ?_))
    refine zQs (n := l.length) (notP p l).length hnl ?_
    repeat (first | refine gG ?_ | refine zN1 (fun hlen => ?_) | refine zN2 (fun hlen => ?_))
    refine zClr 0 (notP p l).length hnl (fun us hus => ?_)
    have htk := take_clear C us ((notP p l).length * 1) (by rw [hus, hCl]; omega)
    repeat (first | refine gG ?_ | refine zN1 (fun hlen => ?_) | refine zN2 (fun hlen => ?_))
    refine zQh (n := l.length) (notP p l).length hnl (fun _ => ?_)
    rw [htk, Nat.mul_one, hCt]
    repeat (first | refine gG ?_ | refine zN1 (fun hlen => ?_) | refine zN2 (fun hlen => ?_))
    refine zG ?_
    exact ⟨_, rfl, rfl⟩
set_option maxRecDepth 100000 in
set_option maxHeartbeats 2000000 in
theorem delStrs2_ag (p : ByteArray → Bool) (f : FuncId) (b c : Nat) (M : List (Value × T)) (l : List ByteArray) (v : Value) (hl : l.length ≤ 1048576) (hf : ∀ a ∈ l, AG Tryd.prog f [.c (.lit (.string a)), .ptr 0 b 0] [.box b 194 [.own 1 (.map (some c))], .mp c M] (fun r hs => r = .c (.lit (.bool (p a))) ∧ hs = [.box b 194 [.own 1 (.map (some c))], .mp c M])) :
    AG Tryd.prog 128 [.own 2 v, .fn (.func f) [.ptr 0 b 0]] [.box b 194 [.own 1 (.map (some c))], .mp c M, .row v 9 1 l.length (l.flatMap strTs)] (fun r hs => ∃ v', r = .own 2 v' ∧ hs = [.box b 194 [.own 1 (.map (some c))], .mp c M, .row v' 9 1 (notP p l).length ((notP p l).flatMap strTs)]) := by
  have hix := idxStrs_ag p f b c M l v hf
  have hd := del_idx p l
  generalize idxI p l = ix at *
  refine ag_enter 3 tok Tryd.func128 Tryd.ntmps128 Tryd.results128 rfl (by kernel_rfl) rfl fun F => ?_
  repeat (first | refine gG ?_ | refine zN1 (fun hlen => ?_) | refine zN2 (fun hlen => ?_))
  refine zCallG [0, 1, 2] hix ?_
  rintro _ _ ⟨rfl, rfl⟩
  refine ⟨.c _, _, re_refl, rfl, rfl, ?_⟩
  clear hix
  rcases hd with ⟨rfl, h2⟩ | ⟨i, rfl, hi, h2⟩
  · repeat (first | refine gG ?_ | refine zN1 (fun hlen => ?_) | refine zN2 (fun hlen => ?_))
    refine zG ?_
    exact ⟨_, rfl, by rw [h2]⟩
  have d0 : decide (((i : Nat) : Int) = -1) = false := decide_eq_false (by omega)
  have hn0 : (notP p (l.take (i + 1))).length = i := by rw [h2, List.length_take]; omega
  have hst := delC_start hi h2
  clear h2
  repeat (first | refine gG ?_ | refine zN1 (fun hlen => ?_) | refine zN2 (fun hlen => ?_))
  refine x_loop [5, 6, 7, 16, 17, 18, 19, 20, 21, 22, 23, 24, 25, 26, 27, 28, 29, 30, 31, 32, 33, 34, 35] (fun y : Nat × List T => [(6, .c (.lit (.int .i64 (y.1 : Nat)))), (5, .c (.lit (.int .i64 ((notP p (l.take y.1)).length : Nat))))]) (fun y => [.box b 194 [.own 1 (.map (some c))], .mp c M, .row v 9 1 l.length y.2]) (fun y => y.1 ≤ l.length ∧ DelC p l y.1 y.2) (fun y => l.length - y.1) (i + 1, l.flatMap strTs) ⟨by omega, hst⟩ ⟨rfl, by rw [hn0]; rfl, trivial⟩ rfl ?_
  clear hst hn0 d0 hi
  rintro ⟨j, C⟩ ⟨hj, hC⟩
  dsimp only at hj hC ⊢
  repeat (first | refine gG ?_ | refine zN1 (fun hlen => ?_) | refine zN2 (fun hlen => ?_))
  refine x_cond rfl (fun h => ?_) (fun h => ?_)
  · have hj' : j < l.length := by simpa using h
    obtain ⟨a, ha⟩ := nth hj'
    have hs := hf a (List.mem_of_getElem? ha)
    have hat := delC_at hC ha
    have hle : (notP p (l.take j)).length ≤ j := Nat.le_trans (notP_len p _) (by rw [List.length_take]; omega)
    have hk := fun hp => delC_keep hC ha (p := p) hp
    have hsk := fun hp => delC_skip hC ha (p := p) hp
    have hsl := fun hp => notP_skip ha (p := p) hp
    have hCl := hC.1
    clear h ha hC hf
    repeat (first | refine gG ?_ | refine zN1 (fun hlen => ?_) | refine zN2 (fun hlen => ?_))
    refine zIxo j hj' ?_
    repeat (first | refine gG ?_ | refine zN1 (fun hlen => ?_) | refine zN2 (fun hlen => ?_))
    refine zElo1 hat ?_
    repeat (first | refine gG ?_ | refine zN1 (fun hlen => ?_) | refine zN2 (fun hlen => ?_))
    refine zCallG [0, 1] hs ?_
    rintro _ _ ⟨rfl, rfl⟩
    refine ⟨.c _, _, re_refl, rfl, rfl, ?_⟩
    clear hs
    cases hp : p a
    · obtain ⟨h1, h2⟩ := hk hp
      clear hk hsk hp hat hsl
      repeat (first | refine gG ?_ | refine zN1 (fun hlen => ?_) | refine zN2 (fun hlen => ?_))
      refine zIxo (notP p (l.take j)).length (show (notP p (l.take j)).length < l.length by omega) ?_
      repeat (first | refine gG ?_ | refine zN1 (fun hlen => ?_) | refine zN2 (fun hlen => ?_))
      refine zSe (us := [.lit (.string a)]) rfl (show (notP p (l.take j)).length * 1 + 1 ≤ C.length by rw [hCl]; omega) ?_
      repeat (first | refine gG ?_ | refine zN1 (fun hlen => ?_) | refine zN2 (fun hlen => ?_))
      exact ⟨(j + 1, _), ⟨hj', h1⟩, by simp only; omega, x_wkd 3 ⟨rfl, by rw [h2]; rfl, trivial⟩ rfl (by repeat (first | exact ag_refl | refine ag_upd rfl ?_ | refine ag_at rfl rfl ?_))⟩
    · have h1 := hsk hp
      have h2 : (notP p (l.take (j + 1))).length = (notP p (l.take j)).length := by rw [hsl hp]
      clear hk hsk hat hsl
      repeat (first | refine gG ?_ | refine zN1 (fun hlen => ?_) | refine zN2 (fun hlen => ?_))
      exact ⟨(j + 1, C), ⟨hj', h1⟩, by simp only; omega, x_wkd 3 ⟨rfl, by rw [h2]; rfl, trivial⟩ rfl (by repeat (first | exact ag_refl | refine ag_upd rfl ?_ | refine ag_at rfl rfl ?_))⟩
  · have hj' : j = l.length := by
      have : ¬ j < l.length := by simpa using h
      omega
    subst hj'
    clear h hf
    obtain ⟨hCl, hCt, _⟩ := hC
    rw [List.take_length] at hCt ⊢
    have hnl := notP_len p l
    repeat (first | refine gG ?_ | refine zN1 (fun hlen => ?_) | refine zN2 (fun hlen => ?_))
    refine zQs (n := l.length) (notP p l).length hnl ?_
    repeat (first | refine gG ?_ | refine zN1 (fun hlen => ?_) | refine zN2 (fun hlen => ?_))
    refine zClr 2 (notP p l).length hnl (fun us hus => ?_)
    have htk := take_clear C us ((notP p l).length * 1) (by rw [hus, hCl]; omega)
    repeat (first | refine gG ?_ | refine zN1 (fun hlen => ?_) | refine zN2 (fun hlen => ?_))
    refine zQh (n := l.length) (notP p l).length hnl (fun _ => ?_)
    rw [htk, Nat.mul_one, hCt]
    repeat (first | refine gG ?_ | refine zN1 (fun hlen => ?_) | refine zN2 (fun hlen => ?_))
    refine zG ?_
    exact ⟨_, rfl, rfl⟩
end Go.Proofs.YtllgibfmddihgaaDoor
namespace Go.Proofs.YtllgibfmddihgaaDoor
open Go.RowKit
def qS : ByteArray := ⟨#[63]⟩
/-- whether a text begins with a question mark -/
def preQ (s : ByteArray) : Bool := decide ((1 : Int) ≤ ((s.data.toList.length : Nat) : Int)) && decide (bs (s.data.toList.take 1) = qS)
def unkB (k : Int) (t : ByteArray) (l : List Y) : Bool := decide (k = 5) && (decide (((l.length : Nat) : Int) = 0) && preQ t)
/-- unknowns in order of their first occurrence, added to others -/
def addU (out : List ByteArray) (k : Int) (t : ByteArray) (l : List Y) : List ByteArray := bif unkB k t l && !hasS out t then out ++ [t] else out
mutual
def Y.unks (out : List ByteArray) : Y → List ByteArray
  | .mk k t l => Y.unksL (addU out k t l) l
def Y.unksL (out : List ByteArray) : List Y → List ByteArray
  | [] => out
  | v :: r => Y.unksL (v.unks out) r
end
theorem unksL_app : ∀ (a b : List Y) (out : List ByteArray), Y.unksL out (a ++ b) = Y.unksL (Y.unksL out a) b
  | [], _, _ => rfl
  | v :: a, b, out => by rw [List.cons_append, Y.unksL, unksL_app a b, Y.unksL]
theorem unksL_snoc {l : List Y} {k : Nat} {a : Y} (h : l[k]? = some a) (out : List ByteArray) : Y.unksL out (l.take (k + 1)) = a.unks (Y.unksL out (l.take k)) := by
  rw [List.take_add_one, h, unksL_app]
  rfl
theorem addU_len (out : List ByteArray) (k : Int) (t : ByteArray) (l : List Y) : (addU out k t l).length ≤ out.length + 1 := by
  unfold addU
  cases unkB k t l && !hasS out t <;> simp
theorem unksL_of (l : List Y) (h : ∀ v ∈ l, ∀ out, (v.unks out).length ≤ out.length + v.mass) : ∀ out, (Y.unksL out l).length ≤ out.length + (l.map Y.mass).sum := by
  induction l with
  | nil => intro out; simp [Y.unksL]
  | cons v r ih =>
    intro out
    rw [Y.unksL, List.map_cons, List.sum_cons]
    have h1 := h v (by simp) out
    have h2 := ih (fun x hx => h x (List.mem_cons_of_mem _ hx)) (v.unks out)
    omega
theorem unks_len (v : Y) : ∀ out, (v.unks out).length ≤ out.length + v.mass := by
  induction v using Y.ind with
  | h k t l ih =>
    intro out
    rw [Y.unks, Y.mass, Y.masses_sum]
    have h1 := unksL_of l ih (addU out k t l)
    have h2 := addU_len out k t l
    have h3 := far_pos k
    omega
set_option maxRecDepth 100000 in
set_option maxHeartbeats 400000 in
theorem prefixLite_af (s : ByteArray) (hs : s.size ≤ 1048576) : AF Tryd.prog 178 [.lit (.string s), .lit (.string qS)] (· = .lit (.bool (preQ s))) := by
  unfold preQ
  have hsd := bs_data s
  have hsl : s.size = s.data.toList.length := by simp
  generalize s.data.toList = l at *
  subst hsd
  cases d : decide ((1 : Int) ≤ ((l.length : Nat) : Int))
  · have d' : decide ((1 : Int) ≤ (((bs l).size : Nat) : Int)) = false := by rw [hsl]; exact d
    refine af_enter tok Tryd.func178 Tryd.ntmps178 Tryd.results178 rfl (by kernel_rfl) rfl rfl fun F hX => ?_
    repeat (first | refine gG ?_ | refine zN1 (fun hlen => ?_) | refine zN2 (fun hlen => ?_))
    first | refine zR ?_ | refine zQ ?_
    rfl
  · have d' : decide ((1 : Int) ≤ (((bs l).size : Nat) : Int)) = true := by rw [hsl]; exact d
    have h1 : 1 ≤ l.length := by
      have := of_decide_eq_true d
      omega
    refine af_enter tok Tryd.func178 Tryd.ntmps178 Tryd.results178 rfl (by kernel_rfl) rfl rfl fun F hX => ?_
    repeat (first | refine gG ?_ | refine zN1 (fun hlen => ?_) | refine zN2 (fun hlen => ?_))
    refine zSph 1 h1 ?_
    repeat (first | refine gG ?_ | refine zN1 (fun hlen => ?_) | refine zN2 (fun hlen => ?_))
    first | refine zR ?_ | refine zQ ?_
    rfl
set_option maxRecDepth 100000 in
set_option maxHeartbeats 400000 in
theorem prefix_af (s : ByteArray) (hs : s.size ≤ 1048576) : AF Tryd.prog 164 [.lit (.string s), .lit (.string qS)] (· = .lit (.bool (preQ s))) := by
  have hc := prefixLite_af s hs
  generalize preQ s = q at *
  refine af_enter tok Tryd.func164 Tryd.ntmps164 Tryd.results164 rfl (by kernel_rfl) rfl rfl fun F hX => ?_
  repeat (first | refine gG ?_)
  refine zCall (hc) ?_
  rintro _ rfl
  repeat (first | refine gG ?_)
  first | refine zR ?_ | refine zQ ?_
  rfl
set_option maxRecDepth 100000 in
set_option maxHeartbeats 400000 in
theorem unknownR_af (k : Int) (t : ByteArray) (l : List Y) (ht : t.size ≤ 1048576) : AF Tryd.prog 127 [(Y.mk k t l).t] (· = .lit (.bool (unkB k t l))) := by
  have hc := prefix_af t ht
  unfold unkB
  generalize preQ t = q at *
  cases d1 : decide (k = 5)
  · refine af_enter tok Tryd.func127 Tryd.ntmps127 Tryd.results127 rfl (by kernel_rfl) rfl rfl fun F hX => ?_
    repeat (first | refine gG ?_ | refine zN1 (fun hlen => ?_) | refine zN2 (fun hlen => ?_) | refine zBf ?_)
    first | refine zR ?_ | refine zQ ?_
    rfl
  cases d2 : decide (((l.length : Nat) : Int) = 0)
  · refine af_enter tok Tryd.func127 Tryd.ntmps127 Tryd.results127 rfl (by kernel_rfl) rfl rfl fun F hX => ?_
    repeat (first | refine gG ?_ | refine zN1 (fun hlen => ?_) | refine zN2 (fun hlen => ?_) | refine zBf ?_)
    first | refine zR ?_ | refine zQ ?_
    rfl
  · refine af_enter tok Tryd.func127 Tryd.ntmps127 Tryd.results127 rfl (by kernel_rfl) rfl rfl fun F hX => ?_
    repeat (first | refine gG ?_ | refine zN1 (fun hlen => ?_) | refine zN2 (fun hlen => ?_) | refine zBf ?_)
    refine zCall (hc) ?_
    rintro _ rfl
    repeat (first | refine gG ?_ | refine zN1 (fun hlen => ?_) | refine zN2 (fun hlen => ?_) | refine zBx (fun _ => ?_))
    first | refine zR ?_ | refine zQ ?_
    rfl
set_option maxRecDepth 100000 in
set_option maxHeartbeats 400000 in
theorem unknownS_af (k : Int) (t : ByteArray) (l : List Y) (ht : t.size ≤ 1048576) : AF Tryd.prog 179 [(Y.mk k t l).t] (· = .lit (.bool (unkB k t l))) := by
  have hc := prefix_af t ht
  unfold unkB
  generalize preQ t = q at *
  cases d1 : decide (k = 5)
  · refine af_enter tok Tryd.func179 Tryd.ntmps179 Tryd.results179 rfl (by kernel_rfl) rfl rfl fun F hX => ?_
    repeat (first | refine gG ?_ | refine zN1 (fun hlen => ?_) | refine zN2 (fun hlen => ?_) | refine zBf ?_)
    first | refine zR ?_ | refine zQ ?_
    rfl
  cases d2 : decide (((l.length : Nat) : Int) = 0)
  · refine af_enter tok Tryd.func179 Tryd.ntmps179 Tryd.results179 rfl (by kernel_rfl) rfl rfl fun F hX => ?_
    repeat (first | refine gG ?_ | refine zN1 (fun hlen => ?_) | refine zN2 (fun hlen => ?_) | refine zBf ?_)
    first | refine zR ?_ | refine zQ ?_
    rfl
  · refine af_enter tok Tryd.func179 Tryd.ntmps179 Tryd.results179 rfl (by kernel_rfl) rfl rfl fun F hX => ?_
    repeat (first | refine gG ?_ | refine zN1 (fun hlen => ?_) | refine zN2 (fun hlen => ?_) | refine zBf ?_)
    refine zCall (hc) ?_
    rintro _ rfl
    repeat (first | refine gG ?_ | refine zN1 (fun hlen => ?_) | refine zN2 (fun hlen => ?_) | refine zBx (fun _ => ?_))
    first | refine zR ?_ | refine zQ ?_
    rfl
set_option maxRecDepth 100000 in
set_option maxHeartbeats 400000 in
theorem unknownU_af (k : Int) (t : ByteArray) (l : List Y) (ht : t.size ≤ 1048576) : AF Tryd.prog 167 [(Y.mk k t l).t] (· = .lit (.bool (unkB k t l))) := by
  have hc := unknownS_af k t l ht
  generalize unkB k t l = q at *
  refine af_enter tok Tryd.func167 Tryd.ntmps167 Tryd.results167 rfl (by kernel_rfl) rfl rfl fun F hX => ?_
  repeat (first | refine gG ?_ | refine zBf ?_)
  refine zCall (hc) ?_
  rintro _ rfl
  repeat (first | refine gG ?_ | refine zBx (fun _ => ?_))
  first | refine zR ?_ | refine zQ ?_
  rfl
set_option maxRecDepth 100000 in
set_option maxHeartbeats 1000000 in
theorem unknownsOf_af (y : Y) (hy : y.mass ≤ 1048576) : AF Tryd.prog 37 [y.t] (· = strRow (y.unks [])) := by
  have hW := unks_len y []
  generalize hwe : y.unks [] = W at *
  have hu : ∀ k t (l : List Y), t.size ≤ 1048576 → AF Tryd.prog 127 [(Y.mk k t l).t] (· = .lit (.bool (unkB k t l))) := fun k t l ht => unknownR_af k t l ht
  have hco := fun l s => contains_af l s
  have hq0 : Y.unksL [] [y] = W := by rw [Y.unksL, Y.unksL, hwe]
  have hm0 : ([y].map Y.mass).sum ≤ 1048576 := by simpa using hy
  clear hwe
  obtain ⟨ky, ty, ly⟩ := y
  refine af_enter tok Tryd.func37 Tryd.ntmps37 Tryd.results37 rfl (by kernel_rfl) rfl rfl fun F hX => ?_
  repeat (first | refine gG ?_ | refine zN1 (fun hlen => ?_) | refine zN2 (fun hlen => ?_) | refine zAl (fun _ => ?_) | refine zBf ?_ | refine zAp (fun _ => ?_))
  refine x_own 3 9 1 rfl rfl rfl rfl rfl ?_
  refine x_loop [3, 4, 5, 8, 9, 10, 11, 12, 13, 14, 15, 16, 17, 18, 19, 20, 21, 22, 23, 24, 25, 26, 27, 28, 29, 30, 31, 32, 33] (fun z : List Y × List ByteArray × Value => [(4, .c (Y.row z.1)), (3, .own 0 z.2.2)]) (fun z => [.row z.2.2 9 1 z.2.1.length (z.2.1.flatMap strTs)]) (fun z => Y.unksL z.2.1 z.1 = W ∧ (z.1.map Y.mass).sum ≤ 1048576 ∧ z.2.1.length + (z.1.map Y.mass).sum ≤ 1048576) (fun z => (z.1.map Y.mass).sum) ([Y.mk ky ty ly], [], .slice none 0 0) ⟨hq0, hm0, by simpa using hm0⟩ ⟨rfl, rfl, trivial⟩ rfl ?_
  clear hq0 hm0
  rintro ⟨q, out, v⟩ ⟨he, hm, ho⟩
  dsimp only at he hm ho ⊢
  rcases q with _ | ⟨⟨k, t, a⟩, r⟩
  · rw [Y.unksL] at he
    subst he
    clear hu hco
    repeat (first | refine gG ?_ | refine zN1 (fun hlen => ?_) | refine zN2 (fun hlen => ?_) | refine zAl (fun _ => ?_) | refine zBx (fun _ => ?_) | refine zAp (fun _ => ?_))
    first | refine zR ?_ | refine zQ ?_
    rfl
  have hma : (Y.mk k t a).mass = far k + (t.size + 1) + ((a.map Y.mass).sum + 1) := by rw [Y.mass, Y.masses_sum]
  have hfk := far_pos k
  rw [List.map_cons, List.sum_cons] at hm ho
  have hll : a.length + r.length ≤ 1048576 := by
    have h1 := len_sum' Y.mass Y.mass_pos a
    have h2 := len_sum' Y.mass Y.mass_pos r
    omega
  have hca := catY2_af a r hll
  have hu1 := hu k t a (by omega)
  have hc1 := hco out t
  have hμ : ((a ++ r).map Y.mass).sum < (((Y.mk k t a) :: r).map Y.mass).sum := by
    rw [List.map_append, List.sum_append, List.map_cons, List.sum_cons, hma]
    omega
  have hM : ((a ++ r).map Y.mass).sum ≤ 1048576 := by rw [List.map_append, List.sum_append]; omega
  have hal := addU_len out k t a
  have hO : (addU out k t a).length + ((a ++ r).map Y.mass).sum ≤ 1048576 := by rw [List.map_append, List.sum_append]; omega
  rw [Y.unksL, Y.unks, ← unksL_app] at he
  have htl := ytail (Y.mk k t a) r
  have hpos : decide ((0 : Int) < ((((Y.mk k t a) :: r).length : Nat) : Int)) = true := decide_eq_true (by rw [List.length_cons]; omega)
  have hol : out.length + 1 ≤ 1048576 := by omega
  unfold addU at he hO
  clear hu hco hm ho hma hll hfk hal
  repeat (first | refine gG ?_ | refine zN1 (fun hlen => ?_) | refine zN2 (fun hlen => ?_) | refine zAl (fun _ => ?_) | refine zBx (fun _ => ?_) | refine zAp (fun _ => ?_))
  refine zIx 0 (show 0 < ((Y.mk k t a) :: r).length by simp) ?_
  repeat (first | refine gG ?_ | refine zN1 (fun hlen => ?_) | refine zN2 (fun hlen => ?_) | refine zAl (fun _ => ?_) | refine zBx (fun _ => ?_) | refine zAp (fun _ => ?_))
  rename_i bx
  refine ac_draw [1, 1, 1, 1, 1, 1, 1] [0, 1, 2, 3, 4, 5, 6] (by kernel_rfl) (by kernel_rfl) ?_
  refine gW ?_
  apply w_q; (focus exact rfl); (focus exact rfl); focus (intro _; (refine zPlg (n := ((Y.mk k t a) :: r).length) 1 (by simp) r.length _ rfl htl ?_); exact det_refl)
  refine gW ?_
  apply w_q; (focus exact rfl); (focus exact rfl); focus (intro _; (refine zCall hca ?_; rintro _ rfl); exact det_refl)
  refine gW ?_
  refine w_nil ?_
  clear hca htl
  repeat (first | refine gG ?_ | refine zN1 (fun hlen => ?_) | refine zN2 (fun hlen => ?_) | refine zAl (fun _ => ?_) | refine zBx (fun _ => ?_) | refine zAp (fun _ => ?_))
  refine zCall (hu1) ?_
  rintro _ rfl
  clear hu1
  cases d1 : unkB k t a
  · rw [d1] at he hO
    simp only [Bool.false_and, cond_false] at he hO
    clear hc1
    repeat (first | refine gG ?_ | refine zN1 (fun hlen => ?_) | refine zN2 (fun hlen => ?_) | refine zAl (fun _ => ?_) | refine zBx (fun _ => ?_) | refine zAp (fun _ => ?_))
    exact ⟨(a ++ r, out, v), ⟨he, hM, hO⟩, hμ, x_wkd 1 ⟨rfl, rfl, trivial⟩ rfl (by repeat (first | exact ag_refl | refine ag_upd rfl ?_ | refine ag_at rfl rfl ?_))⟩
  rw [d1] at he hO
  cases d2 : hasS out t
  · rw [d2] at he hO hc1
    simp only [Bool.not_false, Bool.and_self, cond_true] at he hO
    repeat (first | refine gG ?_ | refine zN1 (fun hlen => ?_) | refine zN2 (fun hlen => ?_) | refine zAl (fun _ => ?_) | refine zBx (fun _ => ?_) | refine zAp (fun _ => ?_))
    refine zPeek hc1 ?_
    rintro _ rfl
    refine ⟨rfl, ?_⟩
    clear hc1
    repeat (first | refine gG ?_ | refine zN1 (fun hlen => ?_) | refine zN2 (fun hlen => ?_) | refine zAl (fun _ => ?_) | refine zBx (fun _ => ?_) | refine zAp (fun _ => ?_))
    exact ⟨(a ++ r, out ++ [t], _), ⟨he, hM, hO⟩, hμ, x_wkd 1 ⟨rfl, rfl, trivial⟩ (by simp only [List.length_append, List.flatMap_append]; rfl) (by repeat (first | exact ag_refl | refine ag_upd rfl ?_ | refine ag_at rfl rfl ?_))⟩
  · rw [d2] at he hO hc1
    simp only [Bool.not_true, Bool.and_false, cond_false] at he hO
    repeat (first | refine gG ?_ | refine zN1 (fun hlen => ?_) | refine zN2 (fun hlen => ?_) | refine zAl (fun _ => ?_) | refine zBx (fun _ => ?_) | refine zAp (fun _ => ?_))
    refine zPeek hc1 ?_
    rintro _ rfl
    refine ⟨rfl, ?_⟩
    clear hc1
    repeat (first | refine gG ?_ | refine zN1 (fun hlen => ?_) | refine zN2 (fun hlen => ?_) | refine zAl (fun _ => ?_) | refine zBx (fun _ => ?_) | refine zAp (fun _ => ?_))
    exact ⟨(a ++ r, out, v), ⟨he, hM, hO⟩, hμ, x_wkd 1 ⟨rfl, rfl, trivial⟩ rfl (by repeat (first | exact ag_refl | refine ag_upd rfl ?_ | refine ag_at rfl rfl ?_))⟩
end Go.Proofs.YtllgibfmddihgaaDoor
namespace Go.Proofs.YtllgibfmddihgaaDoor
open Go.RowKit
theorem prefix_room {l : List Y} {j : Nat} {a : Y} (h : l[j]? = some a) (o : List ByteArray) : (Y.unksL o (l.take j)).length + a.mass ≤ o.length + (l.map Y.mass).sum := by
  have h1 := unksL_of (l.take j) (fun v _ => unks_len v) o
  have h2 : ((l.take (j + 1)).map Y.mass).sum = ((l.take j).map Y.mass).sum + a.mass := by rw [List.take_add_one, h]; simp
  have h3 := sum_take_le Y.mass l (j + 1)
  omega
set_option maxRecDepth 100000 in
set_option maxHeartbeats 2000000 in
theorem unknowns1_ag (y : Y) : ∀ (b1 b2 b3 c : Nat) (v : Value) (ms : List (ByteArray × T)) (out : List ByteArray), y.mass ≤ 1048576 → out.length + y.mass ≤ 1048576 → SeenOk ms out →
    AG Tryd.prog 166 [.c y.t, .ptr 1 b1 0, .ptr 2 b2 0, .ptr 3 b3 0] [.mp c (mkeys Value.string ms), .box b1 194 [.own 0 (.map (some c))], .box b2 36 [.own 4 v], .box b3 248 [.fn (.func 166) [.ptr 1 b1 0, .ptr 2 b2 0, .ptr 3 b3 0]], .row v 9 1 out.length (out.flatMap strTs)]
      (fun r hs => ∃ v' ms', r = .tup [] ∧ hs = [.mp c (mkeys Value.string ms'), .box b1 194 [.own 0 (.map (some c))], .box b2 36 [.own 4 v'], .box b3 248 [.fn (.func 166) [.ptr 1 b1 0, .ptr 2 b2 0, .ptr 3 b3 0]], .row v' 9 1 (y.unks out).length ((y.unks out).flatMap strTs)] ∧ SeenOk ms' (y.unks out)) := by
  induction y using Y.ind with
  | h k t l ih =>
    intro b1 b2 b3 c v ms out hm ho hs
    have hma : (Y.mk k t l).mass = far k + (t.size + 1) + ((l.map Y.mass).sum + 1) := by rw [Y.mass, Y.masses_sum]
    have hfk := far_pos k
    have hu := unknownU_af k t l (by omega)
    have hlk := hs t
    have hput := hs.put t
    have hal := addU_len out k t l
    have hlm : ∀ (o : List ByteArray) (j : Nat), (Y.unksL o (l.take j)).length ≤ o.length + (l.map Y.mass).sum := fun o j => by
      have h1 := unksL_of (l.take j) (fun v _ => unks_len v) o
      have h2 := sum_take_le Y.mass l j
      omega
    have hO : (addU out k t l).length + (l.map Y.mass).sum + 1 ≤ 1048576 := by omega
    have hfin : (Y.mk k t l).unks out = Y.unksL (addU out k t l) l := by rw [Y.unks]
    have hmem : ∀ a ∈ l, a.mass ≤ (l.map Y.mass).sum := fun a ha => sum_mem' Y.mass ha
    rw [hfin]
    have hol : out.length + 1 ≤ 1048576 := by omega
    clear hal hma hfk hfin
    have hsum : (l.map Y.mass).sum ≤ 1048576 := by omega
    unfold addU at hO ⊢
    refine ag_enter 5 tok Tryd.func166 Tryd.ntmps166 Tryd.results166 rfl (by kernel_rfl) rfl fun F => ?_
    repeat (first | refine gG ?_ | refine zN1 (fun hlen => ?_) | refine zN2 (fun hlen => ?_) | refine zAl (fun _ => ?_) | refine zBf ?_ | refine zAp (fun _ => ?_))
    refine zCall (hu) ?_
    rintro _ rfl
    clear hu
    cases d1 : unkB k t l
    · rw [d1] at hO
      simp only [Bool.false_and, cond_false] at hO ⊢
      clear hlk hput
      repeat (first | refine gG ?_ | refine zN1 (fun hlen => ?_) | refine zN2 (fun hlen => ?_) | refine zAl (fun _ => ?_) | refine zBx (fun _ => ?_) | refine zAp (fun _ => ?_))
      have hlm2 := hlm out
      refine x_loop [6, 27, 28, 29, 30, 31, 32, 33, 34] (fun y : Nat × Value × List (ByteArray × T) => [(27, .c (.lit (.int .i64 (y.1 : Nat))))]) (fun y => [.mp c (mkeys Value.string y.2.2), .box b1 194 [.own 0 (.map (some c))], .box b2 36 [.own 4 y.2.1], .box b3 248 [.fn (.func 166) [.ptr 1 b1 0, .ptr 2 b2 0, .ptr 3 b3 0]], .row y.2.1 9 1 (Y.unksL out (l.take y.1)).length ((Y.unksL out (l.take y.1)).flatMap strTs)]) (fun y => y.1 ≤ l.length ∧ SeenOk y.2.2 (Y.unksL out (l.take y.1))) (fun y => l.length - y.1) (0, _, ms) ⟨Nat.zero_le _, hs⟩ ⟨rfl, trivial⟩ rfl ?_
      clear hs
      rintro ⟨j, u, m2⟩ ⟨hj, hs2⟩
      dsimp only at hj hs2 ⊢
      repeat (first | refine gG ?_ | refine zN1 (fun hlen => ?_) | refine zN2 (fun hlen => ?_) | refine zAl (fun _ => ?_) | refine zBx (fun _ => ?_) | refine zAp (fun _ => ?_))
      refine x_cond rfl (fun h => ?_) (fun h => ?_)
      · have hj' : j < l.length := by simpa using h
        obtain ⟨a, ha⟩ := nth hj'
        have hl1 := hlm2 j
        have ham := hmem a (List.mem_of_getElem? ha)
        have hca := ih a (List.mem_of_getElem? ha) b1 b2 b3 c u m2 (Y.unksL out (l.take j)) (by omega) (by have := prefix_room ha out; omega) hs2
        rw [← unksL_snoc ha] at hca
        have hat := Y.at ha
        clear h ha hs2 hlm hlm2 hl1 ham
        obtain ⟨ka, ta, la⟩ := a
        repeat (first | refine gG ?_ | refine zN1 (fun hlen => ?_) | refine zN2 (fun hlen => ?_) | refine zAl (fun _ => ?_) | refine zBx (fun _ => ?_) | refine zAp (fun _ => ?_))
        refine zIx (j) (hj') ?_
        repeat (first | refine gG ?_ | refine zN1 (fun hlen => ?_) | refine zN2 (fun hlen => ?_) | refine zAl (fun _ => ?_) | refine zBx (fun _ => ?_) | refine zAp (fun _ => ?_))
        refine zEl (hat) (Y.ts_len _) ?_
        repeat (first | refine gG ?_ | refine zN1 (fun hlen => ?_) | refine zN2 (fun hlen => ?_) | refine zAl (fun _ => ?_) | refine zBx (fun _ => ?_) | refine zAp (fun _ => ?_))
        refine zCallG [0, 1, 2, 3, 4] hca ?_
        rintro _ _ ⟨v', ms', rfl, rfl, hs3⟩
        refine ⟨.tup [], _, re_refl, rfl, rfl, ?_⟩
        repeat (first | refine gG ?_ | refine zN1 (fun hlen => ?_) | refine zN2 (fun hlen => ?_) | refine zAl (fun _ => ?_) | refine zBx (fun _ => ?_) | refine zAp (fun _ => ?_))
        exact ⟨(j + 1, v', ms'), ⟨hj', hs3⟩, by simp only; omega, x_wkd 5 ⟨rfl, trivial⟩ rfl (by repeat (first | exact ag_refl | refine ag_upd rfl ?_ | refine ag_at rfl rfl ?_))⟩
      · have hj' : j = l.length := by
          have : ¬ j < l.length := by simpa using h
          omega
        subst hj'
        clear h
        rw [List.take_length] at hs2 ⊢
        repeat (first | refine gG ?_ | refine zN1 (fun hlen => ?_) | refine zN2 (fun hlen => ?_) | refine zAl (fun _ => ?_) | refine zBx (fun _ => ?_) | refine zAp (fun _ => ?_))
        refine zG ?_
        exact ⟨_, _, rfl, rfl, hs2⟩
    · cases d2 : hasS out t
      · rw [d1, d2] at hO
        rw [d2] at hlk
        simp only [Bool.not_false, Bool.and_self, cond_true] at hO ⊢
        clear hs
        have d3 : (Bool.false) = false := rfl
        repeat (first | refine gG ?_ | refine zN1 (fun hlen => ?_) | refine zN2 (fun hlen => ?_) | refine zAl (fun _ => ?_) | refine zBx (fun _ => ?_) | refine zAp (fun _ => ?_))
        refine zLks 9 4 hlk ?_
        clear hlk
        repeat (first | refine gG ?_ | refine zN1 (fun hlen => ?_) | refine zN2 (fun hlen => ?_) | refine zAl (fun _ => ?_) | refine zBx (fun _ => ?_) | refine zAp (fun _ => ?_))
        refine zUps 9 4 ?_
        repeat (first | refine gG ?_ | refine zN1 (fun hlen => ?_) | refine zN2 (fun hlen => ?_) | refine zAl (fun _ => ?_) | refine zBx (fun _ => ?_) | refine zAp (fun _ => ?_))
        have hlm2 := hlm (out ++ [t])
        refine x_loop [6, 27, 28, 29, 30, 31, 32, 33, 34] (fun y : Nat × Value × List (ByteArray × T) => [(27, .c (.lit (.int .i64 (y.1 : Nat))))]) (fun y => [.mp c (mkeys Value.string y.2.2), .box b1 194 [.own 0 (.map (some c))], .box b2 36 [.own 4 y.2.1], .box b3 248 [.fn (.func 166) [.ptr 1 b1 0, .ptr 2 b2 0, .ptr 3 b3 0]], .row y.2.1 9 1 (Y.unksL (out ++ [t]) (l.take y.1)).length ((Y.unksL (out ++ [t]) (l.take y.1)).flatMap strTs)]) (fun y => y.1 ≤ l.length ∧ SeenOk y.2.2 (Y.unksL (out ++ [t]) (l.take y.1))) (fun y => l.length - y.1) (0, _, (mput t (.lit (.bool true)) ms)) ⟨Nat.zero_le _, hput⟩ ⟨rfl, trivial⟩ (by simp only [List.take_zero, Y.unksL, List.length_append, List.flatMap_append]; rfl) ?_
        clear hput
        rintro ⟨j, u, m2⟩ ⟨hj, hs2⟩
        dsimp only at hj hs2 ⊢
        repeat (first | refine gG ?_ | refine zN1 (fun hlen => ?_) | refine zN2 (fun hlen => ?_) | refine zAl (fun _ => ?_) | refine zBx (fun _ => ?_) | refine zAp (fun _ => ?_))
        refine x_cond rfl (fun h => ?_) (fun h => ?_)
        · have hj' : j < l.length := by simpa using h
          obtain ⟨a, ha⟩ := nth hj'
          have hl1 := hlm2 j
          have ham := hmem a (List.mem_of_getElem? ha)
          have hca := ih a (List.mem_of_getElem? ha) b1 b2 b3 c u m2 (Y.unksL (out ++ [t]) (l.take j)) (by omega) (by have := prefix_room ha (out ++ [t]); omega) hs2
          rw [← unksL_snoc ha] at hca
          have hat := Y.at ha
          clear h ha hs2 hlm hlm2 hl1 ham
          obtain ⟨ka, ta, la⟩ := a
          repeat (first | refine gG ?_ | refine zN1 (fun hlen => ?_) | refine zN2 (fun hlen => ?_) | refine zAl (fun _ => ?_) | refine zBx (fun _ => ?_) | refine zAp (fun _ => ?_))
          refine zIx (j) (hj') ?_
          repeat (first | refine gG ?_ | refine zN1 (fun hlen => ?_) | refine zN2 (fun hlen => ?_) | refine zAl (fun _ => ?_) | refine zBx (fun _ => ?_) | refine zAp (fun _ => ?_))
          refine zEl (hat) (Y.ts_len _) ?_
          repeat (first | refine gG ?_ | refine zN1 (fun hlen => ?_) | refine zN2 (fun hlen => ?_) | refine zAl (fun _ => ?_) | refine zBx (fun _ => ?_) | refine zAp (fun _ => ?_))
          refine zCallG [0, 1, 2, 3, 4] hca ?_
          rintro _ _ ⟨v', ms', rfl, rfl, hs3⟩
          refine ⟨.tup [], _, re_refl, rfl, rfl, ?_⟩
          repeat (first | refine gG ?_ | refine zN1 (fun hlen => ?_) | refine zN2 (fun hlen => ?_) | refine zAl (fun _ => ?_) | refine zBx (fun _ => ?_) | refine zAp (fun _ => ?_))
          exact ⟨(j + 1, v', ms'), ⟨hj', hs3⟩, by simp only; omega, x_wkd 5 ⟨rfl, trivial⟩ rfl (by repeat (first | exact ag_refl | refine ag_upd rfl ?_ | refine ag_at rfl rfl ?_))⟩
        · have hj' : j = l.length := by
            have : ¬ j < l.length := by simpa using h
            omega
          subst hj'
          clear h
          rw [List.take_length] at hs2 ⊢
          repeat (first | refine gG ?_ | refine zN1 (fun hlen => ?_) | refine zN2 (fun hlen => ?_) | refine zAl (fun _ => ?_) | refine zBx (fun _ => ?_) | refine zAp (fun _ => ?_))
          refine zG ?_
          exact ⟨_, _, rfl, rfl, hs2⟩
      · rw [d1, d2] at hO
        rw [d2] at hlk
        simp only [Bool.not_true, Bool.and_false, cond_false] at hO ⊢
        clear hput
        repeat (first | refine gG ?_ | refine zN1 (fun hlen => ?_) | refine zN2 (fun hlen => ?_) | refine zAl (fun _ => ?_) | refine zBx (fun _ => ?_) | refine zAp (fun _ => ?_))
        refine zLks 9 4 hlk ?_
        clear hlk
        repeat (first | refine gG ?_ | refine zN1 (fun hlen => ?_) | refine zN2 (fun hlen => ?_) | refine zAl (fun _ => ?_) | refine zBx (fun _ => ?_) | refine zAp (fun _ => ?_))
        have hlm2 := hlm out
        refine x_loop [6, 27, 28, 29, 30, 31, 32, 33, 34] (fun y : Nat × Value × List (ByteArray × T) => [(27, .c (.lit (.int .i64 (y.1 : Nat))))]) (fun y => [.mp c (mkeys Value.string y.2.2), .box b1 194 [.own 0 (.map (some c))], .box b2 36 [.own 4 y.2.1], .box b3 248 [.fn (.func 166) [.ptr 1 b1 0, .ptr 2 b2 0, .ptr 3 b3 0]], .row y.2.1 9 1 (Y.unksL out (l.take y.1)).length ((Y.unksL out (l.take y.1)).flatMap strTs)]) (fun y => y.1 ≤ l.length ∧ SeenOk y.2.2 (Y.unksL out (l.take y.1))) (fun y => l.length - y.1) (0, _, ms) ⟨Nat.zero_le _, hs⟩ ⟨rfl, trivial⟩ rfl ?_
        clear hs
        rintro ⟨j, u, m2⟩ ⟨hj, hs2⟩
        dsimp only at hj hs2 ⊢
        repeat (first | refine gG ?_ | refine zN1 (fun hlen => ?_) | refine zN2 (fun hlen => ?_) | refine zAl (fun _ => ?_) | refine zBx (fun _ => ?_) | refine zAp (fun _ => ?_))
        refine x_cond rfl (fun h => ?_) (fun h => ?_)
        · have hj' : j < l.length := by simpa using h
          obtain ⟨a, ha⟩ := nth hj'
          have hl1 := hlm2 j
          have ham := hmem a (List.mem_of_getElem? ha)
          have hca := ih a (List.mem_of_getElem? ha) b1 b2 b3 c u m2 (Y.unksL out (l.take j)) (by omega) (by have := prefix_room ha out; omega) hs2
          rw [← unksL_snoc ha] at hca
          have hat := Y.at ha
          clear h ha hs2 hlm hlm2 hl1 ham
          obtain ⟨ka, ta, la⟩ := a
          repeat (first | refine gG ?_ | refine zN1 (fun hlen => ?_) | refine zN2 (fun hlen => ?_) | refine zAl (fun _ => ?_) | refine zBx (fun _ => ?_) | refine zAp (fun _ => ?_))
          refine zIx (j) (hj') ?_
          repeat (first | refine gG ?_ | refine zN1 (fun hlen => ?_) | refine zN2 (fun hlen => ?_) | refine zAl (fun _ => ?_) | refine zBx (fun _ => ?_) | refine zAp (fun _ => ?_))
          refine zEl (hat) (Y.ts_len _) ?_
          repeat (first | refine gG ?_ | refine zN1 (fun hlen => ?_) | refine zN2 (fun hlen => ?_) | refine zAl (fun _ => ?_) | refine zBx (fun _ => ?_) | refine zAp (fun _ => ?_))
          refine zCallG [0, 1, 2, 3, 4] hca ?_
          rintro _ _ ⟨v', ms', rfl, rfl, hs3⟩
          refine ⟨.tup [], _, re_refl, rfl, rfl, ?_⟩
          repeat (first | refine gG ?_ | refine zN1 (fun hlen => ?_) | refine zN2 (fun hlen => ?_) | refine zAl (fun _ => ?_) | refine zBx (fun _ => ?_) | refine zAp (fun _ => ?_))
          exact ⟨(j + 1, v', ms'), ⟨hj', hs3⟩, by simp only; omega, x_wkd 5 ⟨rfl, trivial⟩ rfl (by repeat (first | exact ag_refl | refine ag_upd rfl ?_ | refine ag_at rfl rfl ?_))⟩
        · have hj' : j = l.length := by
            have : ¬ j < l.length := by simpa using h
            omega
          subst hj'
          clear h
          rw [List.take_length] at hs2 ⊢
          repeat (first | refine gG ?_ | refine zN1 (fun hlen => ?_) | refine zN2 (fun hlen => ?_) | refine zAl (fun _ => ?_) | refine zBx (fun _ => ?_) | refine zAp (fun _ => ?_))
          refine zG ?_
          exact ⟨_, _, rfl, rfl, hs2⟩
set_option maxRecDepth 100000 in
set_option maxHeartbeats 1000000 in
theorem unknowns_ag (y : Y) (hy : y.mass ≤ 1048576) : AG Tryd.prog 129 [.c y.t] [] (fun r hs => ∃ v x0 x1 x2 x3, r = .own 4 v ∧ hs = [x0, x1, x2, x3, .row v 9 1 (y.unks []).length ((y.unks []).flatMap strTs)]) := by
  have hc := fun b1 b2 b3 c v => unknowns1_ag y b1 b2 b3 c v [] [] hy (by simpa using hy) (fun _ => rfl)
  generalize y.unks [] = W at *
  obtain ⟨k0, t0, l0⟩ := y
  refine ag_enter 5 tok Tryd.func129 Tryd.ntmps129 Tryd.results129 rfl (by kernel_rfl) rfl fun F => ?_
  repeat (first | refine ac_seq ?_ | refine ac_block ?_ | refine ac_region ?_)
  repeat (first | refine gO ?_ | refine zAl (fun _ => ?_) | refine zBf ?_)
  repeat (first | refine ac_seq ?_ | refine ac_block ?_ | refine ac_region ?_)
  refine zOp ?_
  refine zMm (fun c => ?_)
  repeat (first | refine gO ?_ | refine zAl (fun _ => ?_) | refine zBf ?_)
  repeat (first | refine ac_seq ?_ | refine ac_block ?_ | refine ac_region ?_)
  repeat (first | refine gO ?_ | refine zAl (fun _ => ?_) | refine zBf ?_)
  repeat (first | refine ac_seq ?_ | refine ac_block ?_ | refine ac_region ?_)
  repeat (first | refine gO ?_ | refine zAl (fun _ => ?_) | refine zBf ?_)
  refine x_own_cell 2 0 9 1 rfl rfl rfl rfl rfl rfl ?_
  repeat (first | refine gG ?_ | refine zAl (fun _ => ?_) | refine zBx (fun _ => ?_))
  refine zCallG [0, 1, 2, 3, 4] (hc _ _ _ _ _) ?_
  rintro _ _ ⟨v', ms', rfl, rfl, _⟩
  refine ⟨.tup [], _, re_refl, rfl, rfl, ?_⟩
  repeat (first | refine gG ?_ | refine zAl (fun _ => ?_) | refine zBx (fun _ => ?_))
  refine zG ?_
  exact ⟨_, _, _, _, _, rfl, rfl⟩
end Go.Proofs.YtllgibfmddihgaaDoor
namespace Go.Proofs.YtllgibfmddihgaaDoor
open Go.RowKit
/-- a scheme -/
structure Sc where
  params : List ByteArray
  ty : Y
def Sc.ts : Sc → List T
  | ⟨ps, y⟩ => [strRow ps] ++ y.ts
theorem Sc.ts_len (x : Sc) : x.ts.length = 4 := by simp [Sc.ts, Y.ts_len]
def Sc.t (x : Sc) : T := .agg x.ts
def Sc.row (l : List Sc) : T := .row l.length 4 (l.flatMap Sc.ts)
theorem Sc.at {l : List Sc} {k : Nat} {x : Sc} (h : l[k]? = some x) : ((l.flatMap Sc.ts).drop (k * 4)).take 4 = x.ts := flat_at Sc.ts 4 Sc.ts_len h
def Sc.mass (x : Sc) : Nat := (strSize x.params + 1) + x.ty.mass
theorem Sc.mass_pos (x : Sc) : 1 ≤ x.mass := by unfold Sc.mass; omega
/-- the unknowns of a scheme that are no parameters -/
def Sc.free (x : Sc) : List ByteArray := notP (hasS x.params) (x.ty.unks [])
theorem Sc.free_len (x : Sc) : x.free.length ≤ x.mass := by
  have h1 := notP_len (hasS x.params) (x.ty.unks [])
  have h2 := unks_len x.ty []
  unfold Sc.free Sc.mass
  simp only [List.length_nil] at h2
  omega
set_option maxRecDepth 100000 in
set_option maxHeartbeats 1000000 in
theorem plain_af (y : Y) (hy : y.mass ≤ 1048576) : AF Tryd.prog 42 [y.t] (· = Sc.t ⟨[], y⟩) := by
  have hc := kindCopy_af y hy
  obtain ⟨k, t, l⟩ := y
  refine af_enter tok Tryd.func42 Tryd.ntmps42 Tryd.results42 rfl (by kernel_rfl) rfl rfl fun F hX => ?_
  repeat (first | refine gG ?_ | refine zAl (fun _ => ?_) | refine zBf ?_)
  refine zCall (hc) ?_
  rintro _ rfl
  repeat (first | refine gG ?_ | refine zAl (fun _ => ?_) | refine zBx (fun _ => ?_))
  first | refine zR (ts := [Sc.t ⟨[], .mk k t l⟩]) ?_ | refine zQ (ts := [Sc.t ⟨[], .mk k t l⟩]) ?_
  rfl
set_option maxRecDepth 100000 in
set_option maxHeartbeats 1000000 in
theorem instance_af (s : Sc) (l : List Y) (hs : s.mass ≤ 1048576) (hl : ∀ v ∈ l, v.mass ≤ 1048576) : AF Tryd.prog 43 [s.t, Y.row l] (· = bif decide (((l.length : Nat) : Int) = ((s.params.length : Nat) : Int)) then .tup [(s.ty.put s.params l).t, .lit (.int .i64 0)] else .tup [(Y.mk 0 ⟨#[]⟩ []).t, .lit (.int .i64 1)]) := by
  have hc := put_af s.params l hl s.ty (by unfold Sc.mass at hs; omega)
  obtain ⟨ps, y⟩ := s
  dsimp only at *
  generalize y.put ps l = x at *
  obtain ⟨k, t, a⟩ := y
  obtain ⟨xk, xn, xl⟩ := x
  cases d : decide (((l.length : Nat) : Int) = ((ps.length : Nat) : Int))
  · simp only [cond]
    refine af_enter tok Tryd.func43 Tryd.ntmps43 Tryd.results43 rfl (by kernel_rfl) rfl rfl fun F hX => ?_
    repeat (first | refine gG ?_ | refine zN1 (fun hlen => ?_) | refine zN2 (fun hlen => ?_) | refine zAl (fun _ => ?_) | refine zBf ?_)
    first | refine zR (ts := [(Y.mk 0 ⟨#[]⟩ []).t, .lit (.int .i64 1)]) ?_ | refine zQ (ts := [(Y.mk 0 ⟨#[]⟩ []).t, .lit (.int .i64 1)]) ?_
    rfl
  · simp only [cond]
    refine af_enter tok Tryd.func43 Tryd.ntmps43 Tryd.results43 rfl (by kernel_rfl) rfl rfl fun F hX => ?_
    repeat (first | refine gG ?_ | refine zN1 (fun hlen => ?_) | refine zN2 (fun hlen => ?_) | refine zAl (fun _ => ?_) | refine zBf ?_)
    refine zCall (hc) ?_
    rintro _ rfl
    repeat (first | refine gG ?_ | refine zN1 (fun hlen => ?_) | refine zN2 (fun hlen => ?_) | refine zAl (fun _ => ?_) | refine zBx (fun _ => ?_))
    first | refine zR ?_ | refine zQ ?_
    rfl
set_option maxRecDepth 100000 in
set_option maxHeartbeats 1000000 in
theorem free1_af (s : Sc) (a : ByteArray) : AF Tryd.prog 130 [.lit (.string a), .pin s.ts 0] (· = .lit (.bool (hasS s.params a))) := by
  have hc := contains_af s.params a
  obtain ⟨ps, ⟨k, t, l⟩⟩ := s
  dsimp only at *
  refine af_enter tok Tryd.func130 Tryd.ntmps130 Tryd.results130 rfl (by kernel_rfl) rfl rfl fun F hX => ?_
  repeat (first | refine gG ?_)
  refine zCall (hc) ?_
  rintro _ rfl
  repeat (first | refine gG ?_)
  first | refine zR ?_ | refine zQ ?_
  rfl
set_option maxRecDepth 100000 in
set_option maxHeartbeats 1000000 in
theorem schemeFree_af (s : Sc) (hs : s.mass ≤ 1048576) : AF Tryd.prog 40 [s.t] (· = strRow s.free) := by
  have hty : s.ty.mass ≤ 1048576 := by unfold Sc.mass at hs; omega
  have hu := unknowns_ag s.ty hty
  have hul : (s.ty.unks []).length ≤ 1048576 := by have := unks_len s.ty []; simp only [List.length_nil] at this; omega
  have hd := fun v => delStrs_ag (hasS s.params) 130 (.pin s.ts 0) (s.ty.unks []) v hul (fun a _ => free1_af s a)
  unfold Sc.free
  generalize hNP : notP (hasS s.params) (s.ty.unks []) = W at *
  clear hNP
  generalize s.ty.unks [] = U at *
  obtain ⟨ps, ⟨k, t, l⟩⟩ := s
  dsimp only at *
  refine af_enter tok Tryd.func40 Tryd.ntmps40 Tryd.results40 rfl (by kernel_rfl) rfl rfl fun F hX => ?_
  repeat (first | refine gG ?_ | refine zBf ?_)
  refine zCallG [] hu ?_
  rintro _ _ ⟨v, x0, x1, x2, x3, rfl, rfl⟩
  refine ⟨.own 4 v, _, re_own, rfl, rfl, ?_⟩
  repeat (first | refine gG ?_ | refine zBx (fun _ => ?_))
  refine zCallG [4] (hd v) ?_
  rintro _ _ ⟨v', rfl, rfl⟩
  refine ⟨.own 4 v', _, re_own, rfl, rfl, ?_⟩
  repeat (first | refine gG ?_ | refine zBx (fun _ => ?_))
  first | refine zR ?_ | refine zQ ?_
  rfl
/-- the names of new unknowns -/
def nameQ (n : Int) : ByteArray := bs ([63] ++ Lib.itoa n)
end Go.Proofs.YtllgibfmddihgaaDoor
