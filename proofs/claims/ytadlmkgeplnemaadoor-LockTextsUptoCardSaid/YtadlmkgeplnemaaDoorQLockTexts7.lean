/-
  Texts of this proof, part 7: Lbf Vad Vaf Lkc Lkd Tkb Tkb2 Vla Tkc Vlb Lkj Lkf Lkg.
-/
import Derived.Test.YtadlmkgeplnemaaDoorQLockTexts6
import Derived.ChangeKeysEq
import Derived.Laws.IdiomRangeMap
import Derived.Laws.StructEq
import Derived.Lib.AppendZerosOnto
import Derived.Lib.AtoiAllCases
import Derived.Lib.AtoiAllMem
import Derived.Lib.MinMax
import Derived.MapKept
import Derived.WideLaws
namespace Go.Proofs.YtadlmkgeplnemaaDoor
open Go.RowKit
theorem gPow : Tryd.prog.globalNamed "internal/strconv.uint64pow10" = some 3 := by kernel_rfl
theorem glob_max {w : World} (h : Glob w) : ∃ m, w.cell? ⟨0, 0, none⟩ = some (.int .i64 m) := by
  obtain ⟨cs, t, fr, ⟨m, rfl⟩, e⟩ := h (0, fun cs => ∃ m, cs = #[.int .i64 m]) (by simp [globTab])
  exact ⟨m, by simp [World.cell?, e]⟩
theorem glob_syn {w : World} (h : Glob w) : ∃ ev, w.cell? ⟨1, 0, none⟩ = some ev ∧ (ev = .nilIface ∨ ∃ te pe, ev = .iface te pe) := by
  obtain ⟨cs, t, fr, ⟨ev, rfl, h1⟩, e⟩ := h (1, errC) (by simp [globTab])
  exact ⟨ev, by simp [World.cell?, e], h1⟩
theorem glob_rng {w : World} (h : Glob w) : ∃ ev, w.cell? ⟨2, 0, none⟩ = some ev ∧ (ev = .nilIface ∨ ∃ te pe, ev = .iface te pe) := by
  obtain ⟨cs, t, fr, ⟨ev, rfl, h1⟩, e⟩ := h (2, errC) (by simp [globTab])
  exact ⟨ev, by simp [World.cell?, e], h1⟩
theorem itoa_af (n : Int) (h : inI n) : AF Tryd.prog 24 [.lit (.int .i64 n)] (· = .lit (.string (bs (Lib.itoa n)))) := by
  refine ⟨⟨_, Tryd.func24, by kernel_rfl, by kernel_rfl⟩, fun M w vs hG hM hvs => ?_⟩
  simp only [RTs, RT] at hvs
  obtain ⟨x, r, rfl, rfl, rfl⟩ := hvs
  obtain ⟨cs, t, fr, rfl, e⟩ := hG (3, (· = (Lib.pow10Tab.map fun z => Value.int .u64 z).toArray)) (by simp [globTab])
  have htab : Lib.TabIs Tryd.prog w "internal/strconv.uint64pow10" .u64 Lib.pow10Tab := by
    unfold Lib.TabIs World.var?
    rw [gPow]
    simp only [Option.bind_some]
    rw [e]
  refine (lib_strconv_Itoa n h.1 h.2 w htab).mono fun e w' ⟨he, k, os, hw⟩ => ?_
  subst he
  have hb : Below w.heap.size w w' := by
    subst hw
    refine ⟨rfl, rfl, rfl, ?_, fun b hb => ?_⟩
    · show w.heap.size ≤ (w.heap ++ os).size
      simp
    · show (w.heap ++ os)[b]? = w.heap[b]?
      rw [Array.getElem?_append_left hb]
  exact ⟨_, _, M, rfl, rfl, Ext.refl _ _, hM.below hb, by simp only [RT]; rfl, hb⟩
def atoiO (s : ByteArray) : Option Int := match Lib.atoiAll s.data.toList with | .ok v => some v | _ => none
theorem atoi_af {s : ByteArray} {v : Int} (h : atoiO s = some v) (hs : s.size ≤ 1048576) : AF Tryd.prog 28 [.lit (.string s)] (· = .tup [.lit (.int .i64 v), .lit .nilIface]) := by
  refine ⟨⟨_, Tryd.func28, by kernel_rfl, by kernel_rfl⟩, fun M w vs hG hM hvs => ?_⟩
  simp only [RTs, RT] at hvs
  obtain ⟨x, r, rfl, rfl, rfl⟩ := hvs
  have h1 : Lib.atoiAll s.data.toList = .ok v := by
    unfold atoiO at h
    split at h
    · rename_i u hu; rw [hu]; cases h; rfl
    · cases h
  refine (lib_strconv_Atoi_ok s (by omega) v h1 w).mono fun e w' ⟨he, hw⟩ => ?_
  subst he
  have hb : Below w.heap.size w w' := by
    rcases hw with rfl | ⟨t, rfl⟩
    · exact Below.refl _ _
    · exact Lib.bytesWorld_below _ _ _
  exact ⟨_, _, M, rfl, rfl, Ext.refl _ _, hM.below hb, by simp only [RT, RTs]; exact ⟨[_, _], rfl, _, _, rfl, rfl, _, _, rfl, rfl, rfl⟩, hb⟩
theorem atoi_bad {s : ByteArray} (h : atoiO s = none) (hs : s.size ≤ 1048576) : AF Tryd.prog 28 [.lit (.string s)] (fun r => ∃ x te pe, r = .tup [.lit (.int .i64 x), .lit (.iface te pe)]) := by
  refine ⟨⟨_, Tryd.func28, by kernel_rfl, by kernel_rfl⟩, fun M w vs hG hM hvs => ?_⟩
  simp only [RTs, RT] at hvs
  obtain ⟨x, r, rfl, rfl, rfl⟩ := hvs
  cases h1 : Lib.atoiAll s.data.toList
  · unfold atoiO at h; rw [h1] at h; cases h
  · obtain ⟨ev, hv, hev⟩ := glob_syn hG
    refine (lib_strconv_Atoi_syntax s (by omega) h1 ev w hv hev).mono fun e w' ⟨N, he, _, _, hb⟩ => ?_
    subst he
    exact ⟨_, _, M, rfl, ⟨_, _, _, rfl⟩, Ext.refl _ _, hM.below hb, by simp only [RT, RTs]; exact ⟨[_, _], rfl, _, _, rfl, rfl, _, _, rfl, rfl, rfl⟩, hb⟩
  · obtain ⟨ev, hv, hev⟩ := glob_rng hG
    refine (lib_strconv_Atoi_range s (by omega) h1 ev w hv hev).mono fun e w' ⟨N, he, _, _, hb⟩ => ?_
    subst he
    exact ⟨_, _, M, rfl, ⟨_, _, _, rfl⟩, Ext.refl _ _, hM.below hb, by simp only [RT, RTs]; exact ⟨[_, _], rfl, _, _, rfl, rfl, _, _, rfl, rfl, rfl⟩, hb⟩
def cutB (s sep : ByteArray) : ByteArray × ByteArray × Bool := (bs (Lib.cut s.data.toList sep.data.toList).1, bs (Lib.cut s.data.toList sep.data.toList).2.1, (Lib.cut s.data.toList sep.data.toList).2.2)
theorem cut_af (s sep : ByteArray) (hs : s.size ≤ 1048576) : AF Tryd.prog 26 [.lit (.string s), .lit (.string sep)] (· = .tup [.lit (.string (cutB s sep).1), .lit (.string (cutB s sep).2.1), .lit (.bool (cutB s sep).2.2)]) := by
  refine ⟨⟨_, Tryd.func26, by kernel_rfl, by kernel_rfl⟩, fun M w vs hG hM hvs => ?_⟩
  simp only [RTs, RT] at hvs
  obtain ⟨x, r, rfl, rfl, y, r', rfl, rfl, rfl⟩ := hvs
  obtain ⟨m, hm⟩ := glob_max hG
  refine (lib_strings_Cut s sep m w (by omega) hm).mono fun e w' ⟨he, k, hw⟩ => ?_
  subst he
  have hb : Below w.heap.size w w' := by subst hw; exact ⟨rfl, rfl, rfl, Nat.le_refl _, fun _ _ => rfl⟩
  exact ⟨_, _, M, rfl, rfl, Ext.refl _ _, hM.below hb, by simp only [RT, RTs]; exact ⟨[_, _, _], rfl, _, _, rfl, rfl, _, _, rfl, rfl, _, _, rfl, rfl, rfl⟩, hb⟩
def splS (s sep : ByteArray) : List ByteArray := Lib.splitB sep 0 (Lib.countB s sep) s
theorem splS_len (s sep : ByteArray) (h1 : 1 ≤ sep.size) : (splS s sep).length = Lib.countB s sep + 1 := Lib.splitB_all sep h1 0 _ s rfl
theorem splS_le (s sep : ByteArray) (h1 : 1 ≤ sep.size) : (splS s sep).length ≤ s.size + 1 := by
  rw [splS_len s sep h1]
  have := Lib.countB_le sep h1 s.size s (Nat.le_refl _)
  omega
theorem splS_data (s sep : ByteArray) : (splS s sep).map (·.data.toList) = Lib.split s.data.toList sep.data.toList := Lib.splitB_data sep 0 _ s
theorem split_af (s sep : ByteArray) (hs : s.size ≤ 1048576) (h1 : 1 ≤ sep.size) : AF Tryd.prog 30 [.lit (.string s), .lit (.string sep)] (· = strRow (splS s sep)) := by
  refine ⟨⟨_, Tryd.func30, by kernel_rfl, by kernel_rfl⟩, fun M w vs hG hM hvs => ?_⟩
  simp only [RTs, RT] at hvs
  obtain ⟨x, r, rfl, rfl, y, r', rfl, rfl, rfl⟩ := hvs
  obtain ⟨m, hm⟩ := glob_max hG
  have hl := splS_len s sep h1
  have hle := splS_le s sep h1
  refine (lib_strings_Split s sep m w (by omega) hm h1).mono fun e w' ⟨he, hw⟩ => ?_
  rw [← hl] at he
  change w' = w.alloc (.cells ((splS s sep).map Value.string).toArray _) at hw
  generalize splS s sep = L at *
  subst he
  have hb : Below w.heap.size w w' := by subst hw; exact (Below.refl _ w).alloc (Nat.le_refl _) _
  have hM' : MemOk M w' := hM.below hb
  refine ⟨_, _, frz M w.heap.size w', rfl, rfl, frz_ext _ _, frz_ok hM' _, ?_, hb⟩
  rw [strRow]
  simp only [RT]
  refine ⟨_, _, L.map Value.string, rfl, Nat.le_refl _, by have : maxLen = 9223372036854775807 := rfl; omega, by omega, by simp, fun _ => ⟨_, rfl, fun j v hj => ?_⟩, strs_rts L⟩
  have hj' := hj
  rw [List.getElem?_map] at hj'
  rw [box_add, Nat.zero_add]
  have hcell : w'.cell? ⟨w.heap.size, j, none⟩ = some v := by
    subst hw
    rw [World.cell?_alloc_new, List.getElem?_toArray]
    exact hj
  have h0 : M ⟨w.heap.size, j, none⟩ = none := by
    cases hq : M ⟨w.heap.size, j, none⟩ with
    | none => rfl
    | some u =>
      have h2 := World.block_lt_of_cell? _ _ (hM _ _ hq).1
      exact absurd h2 (Nat.lt_irrefl _)
  refine frz_new h0 (Nat.le_refl _) hcell ?_
  cases hq : L[j]? with
  | none => rw [hq] at hj'; cases hj'
  | some u => rw [hq] at hj'; cases hj'; rfl
theorem ixb_af (s : ByteArray) (c : Int) : AF Tryd.prog 37 [.lit (.string s), .lit (.int .u8 c)] (· = .lit (.int .i64 (Lib.indexByte s.data.toList c.toNat.toUInt8))) := by
  refine ⟨⟨_, Tryd.func37, by kernel_rfl, by kernel_rfl⟩, fun M w vs hG hM hvs => ?_⟩
  simp only [RTs, RT] at hvs
  obtain ⟨x, r, rfl, rfl, y, r', rfl, rfl, rfl⟩ := hvs
  refine (lib_strings_IndexByte s c w).mono fun e w' ⟨he, hw⟩ => ?_
  subst he; subst hw
  exact ⟨_, _, M, rfl, rfl, Ext.refl _ _, hM, by simp only [RT], Below.refl _ _⟩
theorem index_af (s sub : ByteArray) (hs : s.size ≤ 1048576) : AF Tryd.prog 29 [.lit (.string s), .lit (.string sub)] (· = .lit (.int .i64 (Lib.index s.data.toList sub.data.toList))) := by
  refine ⟨⟨_, Tryd.func29, by kernel_rfl, by kernel_rfl⟩, fun M w vs hG hM hvs => ?_⟩
  simp only [RTs, RT] at hvs
  obtain ⟨x, r, rfl, rfl, y, r', rfl, rfl, rfl⟩ := hvs
  obtain ⟨m, hm⟩ := glob_max hG
  refine (lib_strings_Index s sub m w (by omega) hm).mono fun e w' ⟨he, hw⟩ => ?_
  subst he; subst hw
  exact ⟨_, _, M, rfl, rfl, Ext.refl _ _, hM, by simp only [RT], Below.refl _ _⟩
section
variable {P : Program} {F : Frm} {d : Option Tmp} {ty : TypeId} {pos : String} {aft : Array Edge} {g : Option (Nat × Bool)} {ρ : Operand → AV} {hp : List Blk} {K : AV → List Blk → Prop} {t t' te : TypeId} {x : Operand} {c pe : Value}
theorem zEr0 (h : K (.c (.lit (.bool false))) hp) (hu : P.underlying t = some (.interface (P.methodsAt t)) := by kernel_rfl) (hx : ρ x = .c (.lit .nilIface) := by exact rfl) (hy : ρ (.const c) = .c (.lit .nilIface) := by exact rfl) : LO P F ⟨d, .binOp .neq t x (.const c) t', ty, pos, aft, g⟩ ρ hp K := by
  refine LO.same (fun M e w he hh => ?_) h
  have h1 := he x (by first | (simp [Op.operands]; done) | simp [Op.operands, Call.operands])
  rw [hx] at h1
  have h2 := he (.const c) (by first | (simp [Op.operands]; done) | simp [Op.operands, Call.operands])
  rw [hy] at h2
  simp only [RA, RT] at h1 h2
  refine ⟨.bool false, ?_, by simp only [RA, RT]⟩
  simp [execOp, h1, h2, eqGuard_nil_constR, run_neq_nil_nil w t hu]
theorem zEr1 (h : K (.c (.lit (.bool true))) hp) (hu : P.underlying t = some (.interface (P.methodsAt t)) := by kernel_rfl) (hx : ρ x = .c (.lit (.iface te pe)) := by exact rfl) (hy : ρ (.const c) = .c (.lit .nilIface) := by exact rfl) : LO P F ⟨d, .binOp .neq t x (.const c) t', ty, pos, aft, g⟩ ρ hp K := by
  refine LO.same (fun M e w he hh => ?_) h
  have h1 := he x (by first | (simp [Op.operands]; done) | simp [Op.operands, Call.operands])
  rw [hx] at h1
  have h2 := he (.const c) (by first | (simp [Op.operands]; done) | simp [Op.operands, Call.operands])
  rw [hy] at h2
  simp only [RA, RT] at h1 h2
  refine ⟨.bool true, ?_, by simp only [RA, RT]⟩
  have hg : eqGuard .neq t x (.const c) (.iface te pe) .nilIface = pure () := by cases x <;> rfl
  simp [execOp, h1, h2, hg, run_neq_held_nil w t te pe hu]
end
end Go.Proofs.YtadlmkgeplnemaaDoor
namespace Go.Proofs.YtadlmkgeplnemaaDoor
open Go.RowKit
def rgTs (r : Rg) : List T := [.lit (.int .i64 r.1), .lit (.int .i64 r.2)]
theorem rgTs_len (r : Rg) : (rgTs r).length = 2 := rfl
theorem Rg.at {l : List Rg} {k : Nat} {r : Rg} (h : l[k]? = some r) : ((l.flatMap rgTs).drop (k * 2)).take 2 = rgTs r := flat_at rgTs 2 rgTs_len h
end Go.Proofs.YtadlmkgeplnemaaDoor
namespace Go.Proofs.YtadlmkgeplnemaaDoor
open Go.RowKit
def BitsOf (l : List Rg) (bl : List Bool) : Prop := bl.length = 10001 ∧ ∀ i : Nat, i < 10001 → bl[i]? = some (inB l i)
def BitsTo (l : List Rg) (r : Rg) (m : Nat) (bl : List Bool) : Prop := bl.length = 10001 ∧ ∀ i : Nat, i < 10001 → bl[i]? = some (inB l i || (decide (r.1 ≤ i) && decide (i < m)))
theorem BitsTo.set {l : List Rg} {bl : List Bool} {r : Rg} {m : Nat} (h : BitsTo l r m bl) (hm : r.1 ≤ m) (hb : m < 10001) : BitsTo l r (m + 1) (bl.set m true) := by
  refine ⟨by rw [List.length_set]; exact h.1, fun i hi => ?_⟩
  rw [List.getElem?_set]
  by_cases he : m = i
  · subst he
    rw [if_pos rfl, if_pos (by rw [h.1]; exact hb), decide_eq_true hm, decide_eq_true (by omega), Bool.and_true, Bool.or_true]
  · rw [if_neg he, h.2 i hi]
    have : decide (i < m + 1) = decide (i < m) := decide_eq_decide.2 (by omega)
    rw [this]
theorem BitsTo.done {l : List Rg} {bl : List Bool} {r : Rg} {m : Nat} (h : BitsTo l r m bl) (hm : (m : Int) = r.2 + 1) : BitsOf (l ++ [r]) bl := by
  refine ⟨h.1, fun i hi => ?_⟩
  rw [h.2 i hi]
  have : decide (i < m) = decide ((i : Int) ≤ r.2) := decide_eq_decide.2 (by omega)
  rw [this]
  simp [inB]
end Go.Proofs.YtadlmkgeplnemaaDoor
namespace Go.Proofs.YtadlmkgeplnemaaDoor
open Go.RowKit
theorem RgN.i1 {r : Int × Int} (h : RgN r) : inI r.1 := ⟨by have := h.l1; omega, h.h1⟩
theorem RgN.i2 {r : Int × Int} (h : RgN r) : inI r.2 := ⟨by have := h.l2; omega, h.h2⟩
end Go.Proofs.YtadlmkgeplnemaaDoor
namespace Go.Proofs.YtadlmkgeplnemaaDoor
open Go.RowKit
theorem bs_data' (l : List UInt8) : (bs l).data.toList = l := by simp [bs]
theorem split_le (sep : List UInt8) (save : Nat) : ∀ (k : Nat) (s x : List UInt8), x ∈ Lib.splitK sep save k s → x.length ≤ s.length
  | 0, s, x, h => by rw [Lib.splitK, List.mem_singleton] at h; rw [h]; exact Nat.le_refl _
  | k + 1, s, x, h => by
    rw [Lib.splitK] at h
    split at h
    · rw [List.mem_singleton] at h; rw [h]; exact Nat.le_refl _
    · rcases List.mem_cons.1 h with h | h
      · rw [h, List.length_take]; omega
      · have := split_le sep save k _ x h
        rw [List.length_drop] at this
        omega
theorem size_data (s : ByteArray) : s.size = s.data.toList.length := by cases s; simp [ByteArray.size]
theorem splS_size {s sep x : ByteArray} (h : x ∈ splS s sep) : x.size ≤ s.size := by
  have h1 : x.data.toList ∈ Lib.split s.data.toList sep.data.toList := by rw [← splS_data]; exact List.mem_map_of_mem h
  rw [size_data, size_data]
  exact split_le _ _ _ _ _ h1
theorem cutB_size (s sep : ByteArray) : (cutB s sep).1.size ≤ s.size ∧ (cutB s sep).2.1.size ≤ s.size := by
  unfold cutB
  dsimp only
  rw [bs_size', bs_size', size_data]
  unfold Lib.cut
  split
  · simp only [List.length_take, List.length_drop]
    omega
  · simp
end Go.Proofs.YtadlmkgeplnemaaDoor
namespace Go.Proofs.YtadlmkgeplnemaaDoor
open Go.RowKit
theorem byt_at {l : List UInt8} {k : Nat} {a : UInt8} (h : l[k]? = some a) : (byts l)[k * 1]? = some (bytT a) := by simp [byts, h]
theorem okTo_at {l : List UInt8} {k : Nat} {b : UInt8} (hb : l[k]? = some b) (h : okTo l k) (hx : okN k b.toNat = true) : okTo l (k + 1) := by
  obtain ⟨h1, rfl⟩ := List.getElem?_eq_some_iff.1 hb
  exact okTo_succ h h1 hx
theorem nameOk_at {l : List UInt8} {k : Nat} {b : UInt8} (hb : l[k]? = some b) (hx : okN k b.toNat = false) : nameOk l = false := by
  obtain ⟨h1, rfl⟩ := List.getElem?_eq_some_iff.1 hb
  exact nameOk_bad h1 hx
set_option maxRecDepth 100000 in
set_option maxHeartbeats 4000000 in
theorem name_af (l : List UInt8) (hl : l.length ≤ 1048576) : AF Tryd.prog 31 [.lit (.string (bs l))] (· = .lit (.bool (nameOk l))) := by
  have hsz := bs_size' l
  refine af_enter tok Tryd.func31 Tryd.ntmps31 Tryd.results31 rfl (by kernel_rfl) rfl rfl fun F hX => ?_
  repeat (first | refine gG ?_ | refine zN1 (fun hlen => ?_) | refine zN2 (fun hlen => ?_))
  refine x_loop [2, 3, 4, 5, 8, 9, 10, 11, 12, 13, 14, 15, 16, 17, 18, 19, 20, 21, 22, 23, 24, 25, 26, 27, 28, 29, 30, 31, 32, 33, 34, 35, 36, 37, 38] (fun k : Nat => [(8, .c (.lit (.int .i64 (k : Nat))))]) (fun _ => []) (fun k => k ≤ l.length ∧ okTo l k) (fun k => l.length - k) 0 ⟨Nat.zero_le _, okTo_zero l⟩ ⟨rfl, trivial⟩ rfl ?_
  rintro k ⟨hk, hok⟩
  repeat (first | refine gG ?_ | refine zN1 (fun hlen => ?_) | refine zN2 (fun hlen => ?_))
  refine x_cond rfl (fun h => ?_) (fun h => ?_)
  · have hk' : k < l.length := by rw [hsz] at h; simpa using h
    obtain ⟨b, hb⟩ := nth hk'
    have hy := fun h => okTo_at hb hok h
    have hn := fun h => nameOk_at (k := k) hb h
    repeat (first | refine gG ?_ | refine zN1 (fun hlen => ?_) | refine zN2 (fun hlen => ?_))
    refine zSix k hb ?_
    clear hb hok
    have hxx : okN k b.toNat = (decide (97 ≤ b.toNat ∧ b.toNat ≤ 122) || (decide (k ≠ 0) && (decide (b.toNat = 95) || decide (48 ≤ b.toNat ∧ b.toNat ≤ 57)))) := rfl
    generalize okN k b.toNat = okk at *
    generalize b.toNat = x at *
    cases d1 : decide ((97 : Int) ≤ (x : Int))
    · cases d3 : decide ((k : Int) = 0)
      · cases d4 : decide ((x : Int) = 95)
        · cases d5 : decide ((x : Int) < 48)
          · cases d6 : decide ((57 : Int) < (x : Int))
            · repeat (first | refine gG ?_ | refine zN1 (fun hlen => ?_) | refine zN2 (fun hlen => ?_))
              exact ⟨k + 1, ⟨hk', hy (by rw [hxx]; simp at d1 d3 d4 d5 d6; simp; omega)⟩, by omega, x_wkd 0 ⟨rfl, trivial⟩ rfl (by repeat (first | exact ag_refl | refine ag_upd rfl ?_ | refine ag_at rfl rfl ?_))⟩
            · repeat (first | refine gG ?_ | refine zN1 (fun hlen => ?_) | refine zN2 (fun hlen => ?_))
              first | refine zR ?_ | refine zQ ?_
              rw [hn (by rw [hxx]; simp at d1 d3 d4 d5 d6; simp; omega)]
              rfl
          · repeat (first | refine gG ?_ | refine zN1 (fun hlen => ?_) | refine zN2 (fun hlen => ?_))
            first | refine zR ?_ | refine zQ ?_
            rw [hn (by rw [hxx]; simp at d1 d3 d4 d5; simp; omega)]
            rfl
        · repeat (first | refine gG ?_ | refine zN1 (fun hlen => ?_) | refine zN2 (fun hlen => ?_))
          exact ⟨k + 1, ⟨hk', hy (by rw [hxx]; simp at d1 d3 d4; simp; omega)⟩, by omega, x_wkd 0 ⟨rfl, trivial⟩ rfl (by repeat (first | exact ag_refl | refine ag_upd rfl ?_ | refine ag_at rfl rfl ?_))⟩
      · repeat (first | refine gG ?_ | refine zN1 (fun hlen => ?_) | refine zN2 (fun hlen => ?_))
        first | refine zR ?_ | refine zQ ?_
        rw [hn (by rw [hxx]; simp at d1 d3; simp; omega)]
        rfl
    · cases d2 : decide ((x : Int) ≤ 122)
      · cases d3 : decide ((k : Int) = 0)
        · cases d4 : decide ((x : Int) = 95)
          · cases d5 : decide ((x : Int) < 48)
            · cases d6 : decide ((57 : Int) < (x : Int))
              · repeat (first | refine gG ?_ | refine zN1 (fun hlen => ?_) | refine zN2 (fun hlen => ?_))
                exact ⟨k + 1, ⟨hk', hy (by rw [hxx]; simp at d1 d2 d3 d4 d5 d6; simp; omega)⟩, by omega, x_wkd 0 ⟨rfl, trivial⟩ rfl (by repeat (first | exact ag_refl | refine ag_upd rfl ?_ | refine ag_at rfl rfl ?_))⟩
              · repeat (first | refine gG ?_ | refine zN1 (fun hlen => ?_) | refine zN2 (fun hlen => ?_))
                first | refine zR ?_ | refine zQ ?_
                rw [hn (by rw [hxx]; simp at d1 d2 d3 d4 d5 d6; simp; omega)]
                rfl
            · repeat (first | refine gG ?_ | refine zN1 (fun hlen => ?_) | refine zN2 (fun hlen => ?_))
              first | refine zR ?_ | refine zQ ?_
              rw [hn (by rw [hxx]; simp at d1 d2 d3 d4 d5; simp; omega)]
              rfl
          · repeat (first | refine gG ?_ | refine zN1 (fun hlen => ?_) | refine zN2 (fun hlen => ?_))
            exact ⟨k + 1, ⟨hk', hy (by rw [hxx]; simp at d1 d2 d3 d4; simp; omega)⟩, by omega, x_wkd 0 ⟨rfl, trivial⟩ rfl (by repeat (first | exact ag_refl | refine ag_upd rfl ?_ | refine ag_at rfl rfl ?_))⟩
        · repeat (first | refine gG ?_ | refine zN1 (fun hlen => ?_) | refine zN2 (fun hlen => ?_))
          first | refine zR ?_ | refine zQ ?_
          rw [hn (by rw [hxx]; simp at d1 d2 d3; simp; omega)]
          rfl
      · repeat (first | refine gG ?_ | refine zN1 (fun hlen => ?_) | refine zN2 (fun hlen => ?_))
        exact ⟨k + 1, ⟨hk', hy (by rw [hxx]; simp at d1 d2; simp; omega)⟩, by omega, x_wkd 0 ⟨rfl, trivial⟩ rfl (by repeat (first | exact ag_refl | refine ag_upd rfl ?_ | refine ag_at rfl rfl ?_))⟩
  · have hk' : k = l.length := by rw [hsz] at h; have : ¬ k < l.length := by simpa using h
                                  omega
    subst hk'
    cases d1 : decide (bs l = (⟨#[]⟩ : ByteArray))
    · cases d2 : decide (((bs l).size : Int) ≤ 16)
      · repeat (first | refine gG ?_ | refine zN1 (fun hlen => ?_) | refine zN2 (fun hlen => ?_))
        first | refine zR ?_ | refine zQ ?_
        rw [nameOk_long (by have := of_decide_eq_false d2; omega), d2]
        rfl
      · repeat (first | refine gG ?_ | refine zN1 (fun hlen => ?_) | refine zN2 (fun hlen => ?_))
        first | refine zR ?_ | refine zQ ?_
        have h0 : l ≠ [] := by
          rintro rfl
          exact absurd rfl (of_decide_eq_false d1)
        rw [nameOk_yes h0 (by have := of_decide_eq_true d2; omega) hok, d2]
        rfl
    · repeat (first | refine gG ?_ | refine zN1 (fun hlen => ?_) | refine zN2 (fun hlen => ?_))
      first | refine zR ?_ | refine zQ ?_
      have h0 : l = [] := by
        have := congrArg (fun s => s.data.toList) (of_decide_eq_true d1)
        exact this
      rw [h0, nameOk_nil]
      rfl
end Go.Proofs.YtadlmkgeplnemaaDoor
namespace Go.Proofs.YtadlmkgeplnemaaDoor
open Go.RowKit
set_option maxRecDepth 100000 in
set_option maxHeartbeats 4000000 in
theorem moduleName_af (l : List UInt8) (hl : l.length ≤ 1048576) : AF Tryd.prog 32 [.lit (.string (bs l))] (· = .lit (.bool (nameOk l))) := by
  have hsz := bs_size' l
  refine af_enter tok Tryd.func32 Tryd.ntmps32 Tryd.results32 rfl (by kernel_rfl) rfl rfl fun F hX => ?_
  cases d1 : decide (bs l = (⟨#[]⟩ : ByteArray))
  rotate_left
  · repeat (first | refine gG ?_ | refine zN1 (fun hlen => ?_) | refine zN2 (fun hlen => ?_))
    first | refine zR ?_ | refine zQ ?_
    have h0 : l = [] := by
      have := congrArg (fun s => s.data.toList) (of_decide_eq_true d1)
      exact this
    rw [h0, nameOk_nil]
    rfl
  cases d2 : decide ((16 : Int) < ((bs l).size : Int))
  rotate_left
  · repeat (first | refine gG ?_ | refine zN1 (fun hlen => ?_) | refine zN2 (fun hlen => ?_))
    first | refine zR ?_ | refine zQ ?_
    rw [nameOk_long (by have := of_decide_eq_true d2; omega)]
    rfl
  have h0 : l ≠ [] := by
    rintro rfl
    exact absurd rfl (of_decide_eq_false d1)
  have h16 : l.length ≤ 16 := by have := of_decide_eq_false d2; omega
  repeat (first | refine gG ?_ | refine zN1 (fun hlen => ?_) | refine zN2 (fun hlen => ?_))
  clear d1 d2
  refine zByt (by rw [hsz]; simp only [maxLen]; omega) ?_
  rw [show (bs l).data.toList = l from rfl]
  repeat (first | refine gG ?_ | refine zN1 (fun hlen => ?_) | refine zN2 (fun hlen => ?_))
  refine x_loop [2, 3, 4, 5, 16, 17, 18, 19, 20, 21, 22, 23, 24, 25, 26, 27, 28, 29, 30, 31, 32, 33, 34, 35, 36, 37, 38, 39, 40, 41, 42, 43, 44, 45] (fun k : Nat => [(16, .c (.lit (.int .i64 (k : Nat))))]) (fun _ => []) (fun k => k ≤ l.length ∧ okTo l k) (fun k => l.length - k) 0 ⟨Nat.zero_le _, okTo_zero l⟩ ⟨rfl, trivial⟩ rfl ?_
  rintro k ⟨hk, hok⟩
  repeat (first | refine gG ?_ | refine zN1 (fun hlen => ?_) | refine zN2 (fun hlen => ?_))
  refine x_cond rfl (fun h => ?_) (fun h => ?_)
  · have hk' : k < l.length := by simpa using h
    obtain ⟨b, hb⟩ := nth hk'
    have hy := fun h => okTo_at hb hok h
    have hn := fun h => nameOk_at (k := k) hb h
    repeat (first | refine gG ?_ | refine zN1 (fun hlen => ?_) | refine zN2 (fun hlen => ?_))
    refine zIx k hk' ?_
    repeat (first | refine gG ?_ | refine zN1 (fun hlen => ?_) | refine zN2 (fun hlen => ?_))
    refine zEl1 (v := .lit (.int .u8 (b.toNat : Int))) (byt_at hb) ?_
    clear hb hok
    have hxx : okN k b.toNat = (decide (97 ≤ b.toNat ∧ b.toNat ≤ 122) || (decide (k ≠ 0) && (decide (b.toNat = 95) || decide (48 ≤ b.toNat ∧ b.toNat ≤ 57)))) := rfl
    generalize okN k b.toNat = okk at *
    generalize b.toNat = x at *
    cases d1 : decide ((97 : Int) ≤ (x : Int))
    · cases d3 : decide ((k : Int) = 0)
      · cases d4 : decide ((x : Int) = 95)
        · cases d5 : decide ((x : Int) < 48)
          · cases d6 : decide ((57 : Int) < (x : Int))
            · repeat (first | refine gG ?_ | refine zN1 (fun hlen => ?_) | refine zN2 (fun hlen => ?_))
              exact ⟨k + 1, ⟨hk', hy (by rw [hxx]; simp at d1 d3 d4 d5 d6; simp; omega)⟩, by omega, x_wkd 0 ⟨rfl, trivial⟩ rfl (by repeat (first | exact ag_refl | refine ag_upd rfl ?_ | refine ag_at rfl rfl ?_))⟩
            · repeat (first | refine gG ?_ | refine zN1 (fun hlen => ?_) | refine zN2 (fun hlen => ?_))
              first | refine zR ?_ | refine zQ ?_
              rw [hn (by rw [hxx]; simp at d1 d3 d4 d5 d6; simp; omega)]
              rfl
          · repeat (first | refine gG ?_ | refine zN1 (fun hlen => ?_) | refine zN2 (fun hlen => ?_))
            first | refine zR ?_ | refine zQ ?_
            rw [hn (by rw [hxx]; simp at d1 d3 d4 d5; simp; omega)]
            rfl
        · repeat (first | refine gG ?_ | refine zN1 (fun hlen => ?_) | refine zN2 (fun hlen => ?_))
          exact ⟨k + 1, ⟨hk', hy (by rw [hxx]; simp at d1 d3 d4; simp; omega)⟩, by omega, x_wkd 0 ⟨rfl, trivial⟩ rfl (by repeat (first | exact ag_refl | refine ag_upd rfl ?_ | refine ag_at rfl rfl ?_))⟩
      · repeat (first | refine gG ?_ | refine zN1 (fun hlen => ?_) | refine zN2 (fun hlen => ?_))
        first | refine zR ?_ | refine zQ ?_
        rw [hn (by rw [hxx]; simp at d1 d3; simp; omega)]
        rfl
    · cases d2 : decide ((x : Int) ≤ 122)
      · cases d3 : decide ((k : Int) = 0)
        · cases d4 : decide ((x : Int) = 95)
          · cases d5 : decide ((x : Int) < 48)
            · cases d6 : decide ((57 : Int) < (x : Int))
              · repeat (first | refine gG ?_ | refine zN1 (fun hlen => ?_) | refine zN2 (fun hlen => ?_))
                exact ⟨k + 1, ⟨hk', hy (by rw [hxx]; simp at d1 d2 d3 d4 d5 d6; simp; omega)⟩, by omega, x_wkd 0 ⟨rfl, trivial⟩ rfl (by repeat (first | exact ag_refl | refine ag_upd rfl ?_ | refine ag_at rfl rfl ?_))⟩
              · repeat (first | refine gG ?_ | refine zN1 (fun hlen => ?_) | refine zN2 (fun hlen => ?_))
                first | refine zR ?_ | refine zQ ?_
                rw [hn (by rw [hxx]; simp at d1 d2 d3 d4 d5 d6; simp; omega)]
                rfl
            · repeat (first | refine gG ?_ | refine zN1 (fun hlen => ?_) | refine zN2 (fun hlen => ?_))
              first | refine zR ?_ | refine zQ ?_
              rw [hn (by rw [hxx]; simp at d1 d2 d3 d4 d5; simp; omega)]
              rfl
          · repeat (first | refine gG ?_ | refine zN1 (fun hlen => ?_) | refine zN2 (fun hlen => ?_))
            exact ⟨k + 1, ⟨hk', hy (by rw [hxx]; simp at d1 d2 d3 d4; simp; omega)⟩, by omega, x_wkd 0 ⟨rfl, trivial⟩ rfl (by repeat (first | exact ag_refl | refine ag_upd rfl ?_ | refine ag_at rfl rfl ?_))⟩
        · repeat (first | refine gG ?_ | refine zN1 (fun hlen => ?_) | refine zN2 (fun hlen => ?_))
          first | refine zR ?_ | refine zQ ?_
          rw [hn (by rw [hxx]; simp at d1 d2 d3; simp; omega)]
          rfl
      · repeat (first | refine gG ?_ | refine zN1 (fun hlen => ?_) | refine zN2 (fun hlen => ?_))
        exact ⟨k + 1, ⟨hk', hy (by rw [hxx]; simp at d1 d2; simp; omega)⟩, by omega, x_wkd 0 ⟨rfl, trivial⟩ rfl (by repeat (first | exact ag_refl | refine ag_upd rfl ?_ | refine ag_at rfl rfl ?_))⟩
  · have hk' : k = l.length := by have : ¬ k < l.length := by simpa using h
                                  omega
    subst hk'
    repeat (first | refine gG ?_ | refine zN1 (fun hlen => ?_) | refine zN2 (fun hlen => ?_))
    first | refine zR ?_ | refine zQ ?_
    rw [nameOk_yes h0 h16 hok]
    rfl
end Go.Proofs.YtadlmkgeplnemaaDoor
namespace Go.Proofs.YtadlmkgeplnemaaDoor
open Go.RowKit
def ordK : Option Pk → Pk → Bool
  | none, _ => true
  | some q, p => !leB p.name q.name
noncomputable def lockAt (prev : Option Pk) : List Pk → Int
  | [] => 0
  | p :: r => bif nameOk p.name.data.toList then (bif decide (p.version < 1) || decide (9999 < p.version) then 1 else (bif ordK prev p then lockAt (some p) r else 21)) else 11
noncomputable def lockF (l : List Pk) : Int := bif decide (30 < (l.length : Int)) then 2 else lockAt none l
theorem lockAt_step {l : List Pk} {k : Nat} {p : Pk} (h : l[k]? = some p) : lockAt (prevAt l k) (l.drop k) = bif nameOk p.name.data.toList then (bif decide (p.version < 1) || decide (9999 < p.version) then 1 else (bif ordK (prevAt l k) p then lockAt (prevAt l (k + 1)) (l.drop (k + 1)) else 21)) else 11 := by
  rw [prevAt_succ h]
  obtain ⟨h1, rfl⟩ := List.getElem?_eq_some_iff.1 h
  rw [List.drop_eq_getElem_cons h1, lockAt]
def Asc (l : List Pk) : Prop := l.Pairwise fun a b => strLt a.name b.name = true
theorem lockAt_ok : ∀ {l : List Pk} {p : Option Pk}, lockAt p l = 0 → (∀ q ∈ l, nameOk q.name.data.toList = true ∧ 1 ≤ q.version ∧ q.version ≤ 9999) ∧ Asc l ∧ ∀ a ∈ p, ∀ q ∈ l, strLt a.name q.name = true
  | [], _, _ => ⟨(fun _ h => by cases h), List.Pairwise.nil, fun _ _ _ h => by cases h⟩
  | p :: r, o, h => by
    rw [lockAt] at h
    cases h1 : nameOk p.name.data.toList
    · rw [h1] at h; cases h
    · rw [h1, cond_true] at h
      cases h2 : decide (p.version < 1) || decide (9999 < p.version)
      · rw [h2, cond_false] at h
        cases h3 : ordK o p
        · rw [h3] at h; cases h
        · rw [h3, cond_true] at h
          obtain ⟨i1, i2, i3⟩ := lockAt_ok h
          have h4 := i3 p rfl
          simp only [Bool.or_eq_false_iff, decide_eq_false_iff_not] at h2
          refine ⟨fun q hq => ?_, .cons h4 i2, fun a ha q hq => ?_⟩
          · rcases List.mem_cons.1 hq with rfl | hq
            · exact ⟨h1, by omega, by omega⟩
            · exact i1 q hq
          · cases ha
            have h5 : strLt a.name p.name = true := leB_false (by simpa [ordK] using h3)
            rcases List.mem_cons.1 hq with rfl | hq
            · exact h5
            · exact strLt_trans h5 (h4 q hq)
      · rw [h2] at h; cases h
theorem nameOk_size {s : List UInt8} (h : nameOk s = true) : s.length ≤ 16 := by
  rcases Nat.lt_or_ge 16 s.length with h1 | h1
  · rw [nameOk_long h1] at h; cases h
  · exact h1
theorem nameOk_ne {s : ByteArray} (h : nameOk s.data.toList = true) : s ≠ ⟨#[]⟩ := fun e => by
  rw [e] at h
  rw [show ((⟨#[]⟩ : ByteArray).data.toList) = [] from rfl, nameOk_nil] at h
  cases h
structure Lk (l : List Pk) : Prop where
  len : l.length ≤ 30
  name : ∀ q ∈ l, nameOk q.name.data.toList = true
  ver : ∀ q ∈ l, 1 ≤ q.version ∧ q.version ≤ 9999
  asc : Asc l
theorem lockF_ok {l : List Pk} (h : lockF l = 0) : Lk l := by
  unfold lockF at h
  cases d : decide (30 < (l.length : Int))
  · rw [d, cond_false] at h
    have := of_decide_eq_false d
    obtain ⟨h1, h2, -⟩ := lockAt_ok h
    exact ⟨by omega, fun q hq => (h1 q hq).1, fun q hq => (h1 q hq).2, h2⟩
  · rw [d] at h; cases h
theorem Asc.names {l : List Pk} (h : Asc l) : (l.map Pk.name).Nodup := by
  refine List.pairwise_map.2 (h.imp fun {a b} h1 e => ?_)
  rw [e, strLt_irrefl] at h1
  cases h1
/-- the reference holds each name against the last one, the empty text ahead of the first -/
theorem ord_last {l : List Pk} {k : Nat} {p : Pk} (hn : nameOk p.name.data.toList = true) : leB p.name (lastOf l k) = !ordK (prevAt l k) p := by
  unfold lastOf
  cases prevAt l k with
  | none =>
    show leB p.name ⟨#[]⟩ = !true
    rw [leB_nil, decide_eq_false (nameOk_ne hn)]
    rfl
  | some q =>
    show leB p.name q.name = !!leB p.name q.name
    rw [Bool.not_not]
structure Tn where
  name : ByteArray
  old : Int
  new : Int
def Tn.ts : Tn → List T
  | ⟨n, o, w⟩ => [.lit (.string n), .lit (.int .i64 o), .lit (.int .i64 w)]
theorem Tn.ts_len (x : Tn) : x.ts.length = 3 := rfl
def Tn.t (x : Tn) : T := .agg x.ts
def Tn.row (l : List Tn) : T := .row l.length 3 (l.flatMap Tn.ts)
theorem Tn.at {l : List Tn} {k : Nat} {x : Tn} (h : l[k]? = some x) : ((l.flatMap Tn.ts).drop (k * 3)).take 3 = x.ts := flat_at Tn.ts 3 Tn.ts_len h
end Go.Proofs.YtadlmkgeplnemaaDoor
namespace Go.Proofs.YtadlmkgeplnemaaDoor
open Go.RowKit
theorem nm_af {f : FuncId} {s : ByteArray} (h : AF Tryd.prog f [.lit (.string (bs s.data.toList))] (· = .lit (.bool (nameOk s.data.toList)))) : AF Tryd.prog f [.lit (.string s)] (· = .lit (.bool (nameOk s.data.toList))) := by rwa [bs_data] at h
end Go.Proofs.YtadlmkgeplnemaaDoor
namespace Go.Proofs.YtadlmkgeplnemaaDoor
open Go.RowKit
set_option maxRecDepth 100000 in
set_option maxHeartbeats 4000000 in
theorem lockCheck_af (l : List Pk) (hs : ∀ p ∈ l, p.name.size ≤ 1048576) : AF Tryd.prog 10 [Pk.row l] (· = .lit (.int .i64 (lockF l))) := by
  have hfl : lockF l = bif decide (30 < ((l.length : Nat) : Int)) then 2 else lockAt none l := rfl
  rw [hfl]
  clear hfl
  refine af_enter tok Tryd.func10 Tryd.ntmps10 Tryd.results10 rfl (by kernel_rfl) rfl rfl fun F hX => ?_
  cases d1 : decide (30 < ((l.length : Nat) : Int))
  rotate_left
  · repeat (first | refine gG ?_ | refine zN1 (fun hlen => ?_) | refine zN2 (fun hlen => ?_) | refine zAl (fun _ => ?_))
    first | refine zR ?_ | refine zQ ?_
    rfl
  · rw [cond_false]
    repeat (first | refine gG ?_ | refine zN1 (fun hlen => ?_) | refine zN2 (fun hlen => ?_) | refine zAl (fun _ => ?_))
    refine x_loop [2, 3, 4, 10, 11, 12, 13, 14, 15, 16, 17, 18, 19, 20, 21, 22, 23, 24, 25, 26, 27, 28, 29, 30, 31, 32, 33, 34, 35, 36, 37, 38, 39, 40, 41, 42, 43] (fun k : Nat => [(10, .c (.lit (.int .i64 (k : Nat))))]) (fun _ => []) (fun k => k ≤ l.length ∧ lockAt (prevAt l k) (l.drop k) = lockAt none l) (fun k => l.length - k) 0 ⟨Nat.zero_le _, rfl⟩ ⟨rfl, trivial⟩ rfl ?_
    rintro k ⟨hk, hf⟩
    repeat (first | refine gG ?_ | refine zN1 (fun hlen => ?_) | refine zN2 (fun hlen => ?_) | refine zAl (fun _ => ?_))
    refine x_cond rfl (fun h => ?_) (fun h => ?_)
    · have hk' : k < l.length := by simpa using h
      obtain ⟨p, hp⟩ := nth hk'
      have hN := nm_af (name_af p.name.data.toList (by simpa using hs p (List.mem_of_getElem? hp)))
      have hat := Pk.at hp
      have hst := lockAt_step hp
      rw [hf] at hst
      clear h hf hs
      have hpv : (k = 0 ∧ ordK (prevAt l k) p = true) ∨ ∃ m q, k = m + 1 ∧ l[m]? = some q ∧ ordK (prevAt l k) p = !leB p.name q.name := by
        cases k with
        | zero => exact .inl ⟨rfl, rfl⟩
        | succ m =>
          obtain ⟨q, hq⟩ := nth (show m < l.length by omega)
          exact .inr ⟨m, q, rfl, hq, by rw [prevAt_succ hq]; rfl⟩
      generalize hnx : lockAt (prevAt l (k + 1)) (l.drop (k + 1)) = nx at *
      generalize ordK (prevAt l k) p = od at *
      clear hp
      obtain ⟨nm, v⟩ := p
      dsimp only at hN hst hpv
      generalize nameOk nm.data.toList = nok at *
      cases nok
      · replace hst : lockAt none l = 11 := hst
        repeat (first | refine gG ?_ | refine zN1 (fun hlen => ?_) | refine zN2 (fun hlen => ?_) | refine zAl (fun _ => ?_))
        refine zIx (k) (hk') ?_
        repeat (first | refine gG ?_ | refine zN1 (fun hlen => ?_) | refine zN2 (fun hlen => ?_) | refine zAl (fun _ => ?_))
        refine zEl (hat) (Pk.ts_len _) ?_
        repeat (first | refine gG ?_ | refine zN1 (fun hlen => ?_) | refine zN2 (fun hlen => ?_) | refine zAl (fun _ => ?_))
        refine zCall (hN) ?_
        rintro _ rfl
        repeat (first | refine gG ?_ | refine zN1 (fun hlen => ?_) | refine zN2 (fun hlen => ?_) | refine zAl (fun _ => ?_))
        first | refine zR ?_ | refine zQ ?_
        rw [hst]
        rfl
      replace hst : lockAt none l = bif decide (v < 1) || decide (9999 < v) then 1 else (bif od then nx else 21) := hst
      cases d2 : decide (v < 1)
      rotate_left
      · rw [d2] at hst
        replace hst : lockAt none l = 1 := hst
        repeat (first | refine gG ?_ | refine zN1 (fun hlen => ?_) | refine zN2 (fun hlen => ?_) | refine zAl (fun _ => ?_))
        refine zIx (k) (hk') ?_
        repeat (first | refine gG ?_ | refine zN1 (fun hlen => ?_) | refine zN2 (fun hlen => ?_) | refine zAl (fun _ => ?_))
        refine zEl (hat) (Pk.ts_len _) ?_
        repeat (first | refine gG ?_ | refine zN1 (fun hlen => ?_) | refine zN2 (fun hlen => ?_) | refine zAl (fun _ => ?_))
        refine zCall (hN) ?_
        rintro _ rfl
        repeat (first | refine gG ?_ | refine zN1 (fun hlen => ?_) | refine zN2 (fun hlen => ?_) | refine zAl (fun _ => ?_))
        first | refine zR ?_ | refine zQ ?_
        rw [hst]
        rfl
      cases d3 : decide (9999 < v)
      rotate_left
      · rw [d2, d3] at hst
        replace hst : lockAt none l = 1 := hst
        repeat (first | refine gG ?_ | refine zN1 (fun hlen => ?_) | refine zN2 (fun hlen => ?_) | refine zAl (fun _ => ?_))
        refine zIx (k) (hk') ?_
        repeat (first | refine gG ?_ | refine zN1 (fun hlen => ?_) | refine zN2 (fun hlen => ?_) | refine zAl (fun _ => ?_))
        refine zEl (hat) (Pk.ts_len _) ?_
        repeat (first | refine gG ?_ | refine zN1 (fun hlen => ?_) | refine zN2 (fun hlen => ?_) | refine zAl (fun _ => ?_))
        refine zCall (hN) ?_
        rintro _ rfl
        repeat (first | refine gG ?_ | refine zN1 (fun hlen => ?_) | refine zN2 (fun hlen => ?_) | refine zAl (fun _ => ?_))
        first | refine zR ?_ | refine zQ ?_
        rw [hst]
        rfl
      rw [d2, d3] at hst
      replace hst : lockAt none l = bif od then nx else 21 := hst
      rcases hpv with ⟨rfl, rfl⟩ | ⟨m, q, rfl, hq, rfl⟩
      · replace hst : lockAt none l = nx := hst
        have d4 : decide ((0 : Int) < ((0 : Nat) : Int)) = false := rfl
        repeat (first | refine gG ?_ | refine zN1 (fun hlen => ?_) | refine zN2 (fun hlen => ?_) | refine zAl (fun _ => ?_))
        refine zIx (0) (hk') ?_
        repeat (first | refine gG ?_ | refine zN1 (fun hlen => ?_) | refine zN2 (fun hlen => ?_) | refine zAl (fun _ => ?_))
        refine zEl (hat) (Pk.ts_len _) ?_
        repeat (first | refine gG ?_ | refine zN1 (fun hlen => ?_) | refine zN2 (fun hlen => ?_) | refine zAl (fun _ => ?_))
        refine zCall (hN) ?_
        rintro _ rfl
        repeat (first | refine gG ?_ | refine zN1 (fun hlen => ?_) | refine zN2 (fun hlen => ?_) | refine zAl (fun _ => ?_))
        refine ac_draw [1, 1, 1, 1, 1, 1, 1, 1, 1, 1, 1, 1, 1, 1] [0, 1, 2, 3, 4, 5, 6, 7, 8, 9, 10, 11, 12, 13] (by kernel_rfl) (by kernel_rfl) ?_
        refine gW ?_
        refine w_nil ?_
        repeat (first | refine gG ?_ | refine zN1 (fun hlen => ?_) | refine zN2 (fun hlen => ?_) | refine zAl (fun _ => ?_))
        exact ⟨0 + 1, ⟨hk', by rw [hst, hnx]⟩, by omega, x_wkd 0 ⟨rfl, trivial⟩ rfl (by repeat (first | exact ag_refl | refine ag_upd rfl ?_ | refine ag_at rfl rfl ?_))⟩
      · have hm : m < l.length := by omega
        have g1 : (l.flatMap Pk.ts)[m * 2 + 0]? = some (.lit (.string q.name)) := flat_get Pk.ts 2 Pk.ts_len hq (j := 0) (by omega)
        have d4 : decide ((0 : Int) < ((m + 1 : Nat) : Int)) = true := decide_eq_true (by omega)
        clear hq
        have hle : leB nm q.name = (strLt nm q.name || decide (nm = q.name)) := rfl
        generalize leB nm q.name = le at *
        have d5 := hle.symm
        clear hle
        cases le
        · replace hst : lockAt none l = nx := hst
          repeat (first | refine gG ?_ | refine zN1 (fun hlen => ?_) | refine zN2 (fun hlen => ?_) | refine zAl (fun _ => ?_))
          refine zIx (m + 1) (hk') ?_
          repeat (first | refine gG ?_ | refine zN1 (fun hlen => ?_) | refine zN2 (fun hlen => ?_) | refine zAl (fun _ => ?_))
          refine zEl (hat) (Pk.ts_len _) ?_
          repeat (first | refine gG ?_ | refine zN1 (fun hlen => ?_) | refine zN2 (fun hlen => ?_) | refine zAl (fun _ => ?_))
          refine zCall (hN) ?_
          rintro _ rfl
          repeat (first | refine gG ?_ | refine zN1 (fun hlen => ?_) | refine zN2 (fun hlen => ?_) | refine zAl (fun _ => ?_))
          refine ac_draw [1, 1, 1, 1, 1, 1, 1, 1, 1, 1, 1, 1, 1, 1] [0, 1, 2, 3, 4, 5, 6, 7, 8, 9, 10, 11, 12, 13] (by kernel_rfl) (by kernel_rfl) ?_
          refine gW ?_
          try (first | (apply w_un; (focus exact rfl); (focus exact rfl); (focus exact rfl); (focus exact rfl)) | (apply w_no; (focus exact rfl); (focus exact rfl); (focus exact rfl); (focus exact rfl); focus (first | rfl | assumption | exact neg_t (by assumption) | exact neg_f (by assumption))) | (apply w_qg; (focus exact rfl); (focus exact rfl); (focus exact rfl); (focus exact rfl); (focus (first | rfl | assumption | exact neg_t (by assumption) | exact neg_f (by assumption))); (focus (intro _; (refine lo_sub rfl rfl (r := ((m : Nat) : Int)) (by rw [IntWalk.i64_in _ (by omega)]; omega) ?_); exact det_refl))))
          (first | (apply w_un; (focus exact rfl); (focus exact rfl); (focus exact rfl); (focus exact rfl)) | (apply w_no; (focus exact rfl); (focus exact rfl); (focus exact rfl); (focus exact rfl); focus (first | rfl | assumption | exact neg_t (by assumption) | exact neg_f (by assumption))) | (apply w_qg; (focus exact rfl); (focus exact rfl); (focus exact rfl); (focus exact rfl); (focus (first | rfl | assumption | exact neg_t (by assumption) | exact neg_f (by assumption))); (focus (intro _; (refine zIx m hm ?_); exact det_refl))))
          try refine gW ?_
          try (first | (apply w_un; (focus exact rfl); (focus exact rfl); (focus exact rfl); (focus exact rfl)) | (apply w_no; (focus exact rfl); (focus exact rfl); (focus exact rfl); (focus exact rfl); focus (first | rfl | assumption | exact neg_t (by assumption) | exact neg_f (by assumption))) | (apply w_qg; (focus exact rfl); (focus exact rfl); (focus exact rfl); (focus exact rfl); (focus (first | rfl | assumption | exact neg_t (by assumption) | exact neg_f (by assumption))); (focus (intro _; (refine zEl1 g1 ?_); exact det_refl))))
          try refine gW ?_
          refine w_nil ?_
          repeat (first | refine gG ?_ | refine zN1 (fun hlen => ?_) | refine zN2 (fun hlen => ?_) | refine zAl (fun _ => ?_))
          exact ⟨m + 1 + 1, ⟨hk', by rw [hst, hnx]⟩, by omega, x_wkd 0 ⟨rfl, trivial⟩ rfl (by repeat (first | exact ag_refl | refine ag_upd rfl ?_ | refine ag_at rfl rfl ?_))⟩
        · replace hst : lockAt none l = 21 := hst
          repeat (first | refine gG ?_ | refine zN1 (fun hlen => ?_) | refine zN2 (fun hlen => ?_) | refine zAl (fun _ => ?_))
          refine zIx (m + 1) (hk') ?_
          repeat (first | refine gG ?_ | refine zN1 (fun hlen => ?_) | refine zN2 (fun hlen => ?_) | refine zAl (fun _ => ?_))
          refine zEl (hat) (Pk.ts_len _) ?_
          repeat (first | refine gG ?_ | refine zN1 (fun hlen => ?_) | refine zN2 (fun hlen => ?_) | refine zAl (fun _ => ?_))
          refine zCall (hN) ?_
          rintro _ rfl
          repeat (first | refine gG ?_ | refine zN1 (fun hlen => ?_) | refine zN2 (fun hlen => ?_) | refine zAl (fun _ => ?_))
          refine ac_draw [1, 1, 1, 1, 1, 1, 1, 1, 1, 1, 1, 1, 1, 1] [0, 1, 2, 3, 4, 5, 6, 7, 8, 9, 10, 11, 12, 13] (by kernel_rfl) (by kernel_rfl) ?_
          refine gW ?_
          try (first | (apply w_un; (focus exact rfl); (focus exact rfl); (focus exact rfl); (focus exact rfl)) | (apply w_no; (focus exact rfl); (focus exact rfl); (focus exact rfl); (focus exact rfl); focus (first | rfl | assumption | exact neg_t (by assumption) | exact neg_f (by assumption))) | (apply w_qg; (focus exact rfl); (focus exact rfl); (focus exact rfl); (focus exact rfl); (focus (first | rfl | assumption | exact neg_t (by assumption) | exact neg_f (by assumption))); (focus (intro _; (refine lo_sub rfl rfl (r := ((m : Nat) : Int)) (by rw [IntWalk.i64_in _ (by omega)]; omega) ?_); exact det_refl))))
          (first | (apply w_un; (focus exact rfl); (focus exact rfl); (focus exact rfl); (focus exact rfl)) | (apply w_no; (focus exact rfl); (focus exact rfl); (focus exact rfl); (focus exact rfl); focus (first | rfl | assumption | exact neg_t (by assumption) | exact neg_f (by assumption))) | (apply w_qg; (focus exact rfl); (focus exact rfl); (focus exact rfl); (focus exact rfl); (focus (first | rfl | assumption | exact neg_t (by assumption) | exact neg_f (by assumption))); (focus (intro _; (refine zIx m hm ?_); exact det_refl))))
          try refine gW ?_
          try (first | (apply w_un; (focus exact rfl); (focus exact rfl); (focus exact rfl); (focus exact rfl)) | (apply w_no; (focus exact rfl); (focus exact rfl); (focus exact rfl); (focus exact rfl); focus (first | rfl | assumption | exact neg_t (by assumption) | exact neg_f (by assumption))) | (apply w_qg; (focus exact rfl); (focus exact rfl); (focus exact rfl); (focus exact rfl); (focus (first | rfl | assumption | exact neg_t (by assumption) | exact neg_f (by assumption))); (focus (intro _; (refine zEl1 g1 ?_); exact det_refl))))
          try refine gW ?_
          refine w_nil ?_
          repeat (first | refine gG ?_ | refine zN1 (fun hlen => ?_) | refine zN2 (fun hlen => ?_) | refine zAl (fun _ => ?_))
          first | refine zR ?_ | refine zQ ?_
          rw [hst]
          rfl
    · have hk' : k = l.length := by
        have : ¬ k < l.length := by simpa using h
        omega
      subst hk'
      rw [List.drop_length] at hf
      clear h
      repeat (first | refine gG ?_ | refine zN1 (fun hlen => ?_) | refine zN2 (fun hlen => ?_) | refine zAl (fun _ => ?_))
      first | refine zR ?_ | refine zQ ?_
      rw [← hf]
      rfl
set_option maxRecDepth 100000 in
set_option maxHeartbeats 4000000 in
theorem lockFault_af (l : List Pk) (hs : ∀ p ∈ l, p.name.size ≤ 1048576) : AF Tryd.prog 11 [Pk.row l] (· = .lit (.int .i64 (lockF l))) := by
  have hfl : lockF l = bif decide (30 < ((l.length : Nat) : Int)) then 2 else lockAt none l := rfl
  rw [hfl]
  clear hfl
  refine af_enter tok Tryd.func11 Tryd.ntmps11 Tryd.results11 rfl (by kernel_rfl) rfl rfl fun F hX => ?_
  cases d1 : decide (30 < ((l.length : Nat) : Int))
  rotate_left
  · repeat (first | refine gG ?_ | refine zN1 (fun hlen => ?_) | refine zN2 (fun hlen => ?_) | refine zAl (fun _ => ?_))
    first | refine zR ?_ | refine zQ ?_
    rfl
  · rw [cond_false]
    repeat (first | refine gG ?_ | refine zN1 (fun hlen => ?_) | refine zN2 (fun hlen => ?_) | refine zAl (fun _ => ?_))
    refine x_loop [2, 3, 5, 11, 12, 13, 14, 15, 16, 17, 18, 19, 20, 21, 22, 23, 24, 25, 26, 27, 28, 29, 30, 31, 32, 33, 34, 35, 36] (fun k : Nat => [(11, .c (.lit (.int .i64 (k : Nat)))), (3, .c (.lit (.string (lastOf l k))))]) (fun _ => []) (fun k => k ≤ l.length ∧ lockAt (prevAt l k) (l.drop k) = lockAt none l) (fun k => l.length - k) 0 ⟨Nat.zero_le _, rfl⟩ ⟨rfl, rfl, trivial⟩ rfl ?_
    rintro k ⟨hk, hf⟩
    repeat (first | refine gG ?_ | refine zN1 (fun hlen => ?_) | refine zN2 (fun hlen => ?_) | refine zAl (fun _ => ?_))
    refine x_cond rfl (fun h => ?_) (fun h => ?_)
    · have hk' : k < l.length := by simpa using h
      obtain ⟨p, hp⟩ := nth hk'
      have hN := nm_af (moduleName_af p.name.data.toList (by simpa using hs p (List.mem_of_getElem? hp)))
      have hat := Pk.at hp
      have hst := lockAt_step hp
      have hol := @ord_last l k p
      have hls := lastOf_succ hp
      rw [hf] at hst
      clear h hf hs
      generalize hnx : lockAt (prevAt l (k + 1)) (l.drop (k + 1)) = nx at *
      generalize ordK (prevAt l k) p = od at *
      generalize lastOf l k = la at *
      generalize hla : lastOf l (k + 1) = la' at *
      clear hp
      obtain ⟨nm, v⟩ := p
      dsimp only at hN hst hol hls
      generalize nameOk nm.data.toList = nok at *
      cases nok
      · replace hst : lockAt none l = 11 := hst
        clear hol
        repeat (first | refine gG ?_ | refine zN1 (fun hlen => ?_) | refine zN2 (fun hlen => ?_) | refine zAl (fun _ => ?_))
        refine zIx (k) (hk') ?_
        repeat (first | refine gG ?_ | refine zN1 (fun hlen => ?_) | refine zN2 (fun hlen => ?_) | refine zAl (fun _ => ?_))
        refine zEl (hat) (Pk.ts_len _) ?_
        repeat (first | refine gG ?_ | refine zN1 (fun hlen => ?_) | refine zN2 (fun hlen => ?_) | refine zAl (fun _ => ?_))
        refine zCall (hN) ?_
        rintro _ rfl
        repeat (first | refine gG ?_ | refine zN1 (fun hlen => ?_) | refine zN2 (fun hlen => ?_) | refine zAl (fun _ => ?_))
        first | refine zR ?_ | refine zQ ?_
        rw [hst]
        rfl
      replace hol := hol rfl
      replace hst : lockAt none l = bif decide (v < 1) || decide (9999 < v) then 1 else (bif od then nx else 21) := hst
      cases d2 : decide (v < 1)
      rotate_left
      · rw [d2] at hst
        replace hst : lockAt none l = 1 := hst
        clear hol
        repeat (first | refine gG ?_ | refine zN1 (fun hlen => ?_) | refine zN2 (fun hlen => ?_) | refine zAl (fun _ => ?_))
        refine zIx (k) (hk') ?_
        repeat (first | refine gG ?_ | refine zN1 (fun hlen => ?_) | refine zN2 (fun hlen => ?_) | refine zAl (fun _ => ?_))
        refine zEl (hat) (Pk.ts_len _) ?_
        repeat (first | refine gG ?_ | refine zN1 (fun hlen => ?_) | refine zN2 (fun hlen => ?_) | refine zAl (fun _ => ?_))
        refine zCall (hN) ?_
        rintro _ rfl
        repeat (first | refine gG ?_ | refine zN1 (fun hlen => ?_) | refine zN2 (fun hlen => ?_) | refine zAl (fun _ => ?_))
        first | refine zR ?_ | refine zQ ?_
        rw [hst]
        rfl
      cases d3 : decide (9999 < v)
      rotate_left
      · rw [d2, d3] at hst
        replace hst : lockAt none l = 1 := hst
        clear hol
        repeat (first | refine gG ?_ | refine zN1 (fun hlen => ?_) | refine zN2 (fun hlen => ?_) | refine zAl (fun _ => ?_))
        refine zIx (k) (hk') ?_
        repeat (first | refine gG ?_ | refine zN1 (fun hlen => ?_) | refine zN2 (fun hlen => ?_) | refine zAl (fun _ => ?_))
        refine zEl (hat) (Pk.ts_len _) ?_
        repeat (first | refine gG ?_ | refine zN1 (fun hlen => ?_) | refine zN2 (fun hlen => ?_) | refine zAl (fun _ => ?_))
        refine zCall (hN) ?_
        rintro _ rfl
        repeat (first | refine gG ?_ | refine zN1 (fun hlen => ?_) | refine zN2 (fun hlen => ?_) | refine zAl (fun _ => ?_))
        first | refine zR ?_ | refine zQ ?_
        rw [hst]
        rfl
      rw [d2, d3] at hst
      replace hst : lockAt none l = bif od then nx else 21 := hst
      have d5 : (strLt nm la || decide (nm = la)) = !od := hol
      clear hol
      cases od
      · replace hst : lockAt none l = 21 := hst
        replace d5 : (strLt nm la || decide (nm = la)) = true := d5
        repeat (first | refine gG ?_ | refine zN1 (fun hlen => ?_) | refine zN2 (fun hlen => ?_) | refine zAl (fun _ => ?_))
        refine zIx (k) (hk') ?_
        repeat (first | refine gG ?_ | refine zN1 (fun hlen => ?_) | refine zN2 (fun hlen => ?_) | refine zAl (fun _ => ?_))
        refine zEl (hat) (Pk.ts_len _) ?_
        repeat (first | refine gG ?_ | refine zN1 (fun hlen => ?_) | refine zN2 (fun hlen => ?_) | refine zAl (fun _ => ?_))
        refine zCall (hN) ?_
        rintro _ rfl
        repeat (first | refine gG ?_ | refine zN1 (fun hlen => ?_) | refine zN2 (fun hlen => ?_) | refine zAl (fun _ => ?_))
        first | refine zR ?_ | refine zQ ?_
        rw [hst]
        rfl
      · replace hst : lockAt none l = nx := hst
        replace d5 : (strLt nm la || decide (nm = la)) = false := d5
        repeat (first | refine gG ?_ | refine zN1 (fun hlen => ?_) | refine zN2 (fun hlen => ?_) | refine zAl (fun _ => ?_))
        refine zIx (k) (hk') ?_
        repeat (first | refine gG ?_ | refine zN1 (fun hlen => ?_) | refine zN2 (fun hlen => ?_) | refine zAl (fun _ => ?_))
        refine zEl (hat) (Pk.ts_len _) ?_
        repeat (first | refine gG ?_ | refine zN1 (fun hlen => ?_) | refine zN2 (fun hlen => ?_) | refine zAl (fun _ => ?_))
        refine zCall (hN) ?_
        rintro _ rfl
        repeat (first | refine gG ?_ | refine zN1 (fun hlen => ?_) | refine zN2 (fun hlen => ?_) | refine zAl (fun _ => ?_))
        exact ⟨k + 1, ⟨hk', by rw [hst, hnx]⟩, by omega, x_wkd 0 ⟨rfl, by rw [hla, hls]; rfl, trivial⟩ rfl (by repeat (first | exact ag_refl | refine ag_upd rfl ?_ | refine ag_at rfl rfl ?_))⟩
    · have hk' : k = l.length := by
        have : ¬ k < l.length := by simpa using h
        omega
      subst hk'
      rw [List.drop_length] at hf
      clear h
      repeat (first | refine gG ?_ | refine zN1 (fun hlen => ?_) | refine zN2 (fun hlen => ?_) | refine zAl (fun _ => ?_))
      first | refine zR ?_ | refine zQ ?_
      rw [← hf]
      rfl
end Go.Proofs.YtadlmkgeplnemaaDoor
namespace Go.Proofs.YtadlmkgeplnemaaDoor
open Go.RowKit
def lnOf (p : Pk) : Ln := (p.name.data.toList, p.version)
def pkOf (p : Ln) : Pk := ⟨bs p.1, p.2⟩
theorem pk_ln (p : Pk) : pkOf (lnOf p) = p := by cases p; simp [pkOf, lnOf, bs_self]
theorem pks_lns (l : List Pk) : (l.map lnOf).map pkOf = l := by
  rw [List.map_map]
  have : pkOf ∘ lnOf = id := funext pk_ln
  rw [this, List.map_id]
noncomputable def lkT (l : List Pk) : ByteArray × Int := bif decide (lockF l = 0) then (bs (txL (l.map lnOf)), 0) else (⟨#[]⟩, lockF l)
noncomputable def rdK (s : ByteArray) (o : Option (List Pk)) : List Pk × Int := match o with | none => ([], 3) | some out => bif decide ((lkT out).2 = 0) && decide ((lkT out).1 = s) then (out, 0) else ([], 3)
def prR (s : ByteArray) : Option (List Pk) := (readR (linesOf s.data.toList) []).map (·.map pkOf)
def rfR (s : ByteArray) : Option (List Pk) := (parseR s.data.toList []).map (·.map pkOf)
theorem okN_not {i x : Nat} (h : okN i x = true) : x ≠ 10 ∧ x ≠ 32 := by
  unfold okN at h
  simp only [Bool.or_eq_true, Bool.and_eq_true, decide_eq_true_eq] at h
  omega
theorem nameOk_mem {s : List UInt8} (h : nameOk s = true) : ∀ x ∈ s, x.toNat ≠ 10 ∧ x.toNat ≠ 32 := by
  simp only [nameOk, decide_eq_true_eq] at h
  intro x hx
  obtain ⟨j, hj, rfl⟩ := List.getElem_of_mem hx
  exact okN_not (h.2.2 j hj hj)
theorem lnOk_of {l : List Pk} (h : Lk l) : ∀ p ∈ l.map lnOf, LnOk p := by
  intro p hp
  obtain ⟨q, hq, rfl⟩ := List.mem_map.1 hp
  have h1 := h.ver q hq
  exact ⟨nameOk_mem (h.name q hq), by have : (lnOf q).2 = q.version := rfl; omega, by have : (lnOf q).2 = q.version := rfl; omega⟩
theorem lkT_good {l : List Pk} (h : (lkT l).2 = 0) : lockF l = 0 ∧ (lkT l).1 = bs (txL (l.map lnOf)) := by
  unfold lkT at *
  cases d : decide (lockF l = 0)
  · rw [d] at h
    exact absurd h (of_decide_eq_false d)
  · exact ⟨of_decide_eq_true d, rfl⟩
theorem rdK_ok {s : ByteArray} {out : List Pk} (hd : (decide ((lkT out).2 = 0) && decide ((lkT out).1 = s)) = true) : prR s = some out ∧ rfR s = some out := by
  simp only [Bool.and_eq_true, decide_eq_true_eq] at hd
  obtain ⟨h1, h2⟩ := lkT_good hd.1
  rw [h2] at hd
  have hs : s.data.toList = txL (out.map lnOf) := by rw [← hd.2]; simp [bs]
  have hk := lockF_ok h1
  unfold prR rfR
  rw [hs, readR_tx _ _ (lnOk_of hk) (by simpa using hk.len), parseR_tx _ _ (lnOk_of hk)]
  simp only [List.nil_append, Option.map_some, pks_lns, and_self]
theorem rdK_bad {s : ByteArray} {o : Option (List Pk)} (h : ∀ out, o = some out → (decide ((lkT out).2 = 0) && decide ((lkT out).1 = s)) = false) : rdK s o = ([], 3) := by
  unfold rdK
  cases o with
  | none => rfl
  | some out => simp only [h out rfl, cond_false]
theorem rdK_same (s : ByteArray) : rdK s (prR s) = rdK s (rfR s) := by
  by_cases h : ∃ out, (decide ((lkT out).2 = 0) && decide ((lkT out).1 = s)) = true
  · obtain ⟨out, ho⟩ := h
    obtain ⟨h1, h2⟩ := rdK_ok ho
    rw [h1, h2]
  · have h2 : ∀ (o : Option (List Pk)) out, o = some out → (decide ((lkT out).2 = 0) && decide ((lkT out).1 = s)) = false := fun o out _ => by
      cases hc : decide ((lkT out).2 = 0) && decide ((lkT out).1 = s)
      · rfl
      · exact absurd ⟨out, hc⟩ h
    rw [rdK_bad (h2 _), rdK_bad (h2 _)]
theorem lnL_len {p : Pk} (h : nameOk p.name.data.toList = true) (hv : 1 ≤ p.version ∧ p.version ≤ 9999) : (lnL (lnOf p)).length ≤ 40 := by
  have h1 := nameOk_size h
  have h2 := itoa_len (v := p.version) (by omega) (by omega)
  unfold lnL lnOf
  simp only [List.length_append, List.length_cons, List.length_nil]
  omega
theorem txL_snoc (l : List Ln) (p : Ln) : txL (l ++ [p]) = txL l ++ lnL p := by simp [txL]
theorem txL_len {l : List Pk} (h : Lk l) : ∀ k, (txL ((l.take k).map lnOf)).length ≤ 40 * k
  | 0 => by simp [txL]
  | k + 1 => by
    have ih := txL_len h k
    by_cases hk : k < l.length
    · have hm := List.getElem_mem hk
      rw [List.take_succ_eq_append_getElem hk, List.map_append, List.map_singleton, txL_snoc, List.length_append]
      have := lnL_len (h.name _ hm) (h.ver _ hm)
      omega
    · rw [List.take_of_length_le (by omega)] at *
      omega
theorem index_lt {c : UInt8} : ∀ {s : List UInt8}, 0 ≤ Lib.index s [c] → (Lib.index s [c]).toNat < s.length
  | [], h => by simp [Lib.index] at h
  | x :: s, h => by
    by_cases hm : c ∈ (x :: s)
    · obtain ⟨a, b, he, hn⟩ := List.eq_append_cons_of_mem hm
      rw [he, index_hit hn]
      simp
    · rw [index_miss hm] at h
      omega
theorem ixb_miss {c : UInt8} : ∀ {a : List UInt8}, c ∉ a → Lib.indexByte a c = -1
  | [], _ => rfl
  | b :: a, h => by
    have h1 : ¬ b = c := fun e => h (by rw [e]; simp)
    have h2 := ixb_miss (c := c) (a := a) fun hm => h (by simp [hm])
    rw [Lib.indexByte, if_neg (by simp [h1]), h2]
    rfl
theorem ixb_lt {c : UInt8} {s : List UInt8} (h : 0 ≤ Lib.indexByte s c) : (Lib.indexByte s c).toNat < s.length := by
  by_cases hm : c ∈ s
  · obtain ⟨a, b, he, hn⟩ := List.eq_append_cons_of_mem hm
    rw [he, ixb_hit hn]
    simp
  · exfalso
    have : Lib.indexByte s c = -1 := ixb_miss hm
    omega
theorem lineR_eq (line : List UInt8) : lineR line = match atoiO (cutB (bs (Lib.trimSuffix line [10])) ⟨#[32]⟩).2.1 with | some v => some ((cutB (bs (Lib.trimSuffix line [10])) ⟨#[32]⟩).1.data.toList, v) | none => none := by
  unfold lineR cutB atoiO
  dsimp only
  rw [bs_data', bs_data', bs_data']
  change _ = match (match Lib.atoiAll (Lib.cut (Lib.trimSuffix line [10]) [32]).2.1 with | .ok v => some v | _ => none) with | some v => some ((Lib.cut (Lib.trimSuffix line [10]) [32]).1, v) | none => none
  cases Lib.atoiAll (Lib.cut (Lib.trimSuffix line [10]) [32]).2.1 <;> rfl
theorem trim_af (s p : ByteArray) (hs : s.size ≤ 1048576) : AF Tryd.prog 27 [.lit (.string s), .lit (.string p)] (· = .lit (.string (bs (Lib.trimSuffix s.data.toList p.data.toList)))) := by
  refine ⟨⟨_, Tryd.func27, by kernel_rfl, by kernel_rfl⟩, fun M w vs hG hM hvs => ?_⟩
  simp only [RTs, RT] at hvs
  obtain ⟨x, r, rfl, rfl, y, r', rfl, rfl, rfl⟩ := hvs
  refine (lib_strings_TrimSuffix s p w (by omega)).mono fun e w' ⟨he, hw⟩ => ?_
  subst he; subst hw
  exact ⟨_, _, M, rfl, rfl, Ext.refl _ _, hM, by simp only [RT]; rfl, Below.refl _ _⟩
theorem trim_len (s t : List UInt8) : (Lib.trimSuffix s t).length ≤ s.length := by
  unfold Lib.trimSuffix
  split
  · simp
  · exact Nat.le_refl _
end Go.Proofs.YtadlmkgeplnemaaDoor
namespace Go.Proofs.YtadlmkgeplnemaaDoor
open Go
structure Cz where
  kd : Int
  a : Int
  b : Int
structure CzN (c : Cz) : Prop where
  k1 : 1 ≤ c.kd
  k3 : c.kd ≤ 3
  a0 : 0 ≤ c.a
  a1 : c.a ≤ 9223372036854775807
  b0 : 0 ≤ c.b
  b1 : c.b ≤ 9223372036854775807
  bk : c.b = 0 ∨ c.kd = 2
structure CzI (c : Cz) : Prop where
  a1 : c.a ≤ 9223372036854775807
  b1 : c.b ≤ 9223372036854775807
/-- what is read lies where numbers lie -/
def CzR (c : Cz) : Prop := (-9223372036854775808 ≤ c.a ∧ c.a ≤ 9223372036854775807) ∧ (-9223372036854775808 ≤ c.b ∧ c.b ≤ 9223372036854775807)
theorem CzR.i {c : Cz} (h : CzR c) : CzI c := ⟨h.1.2, h.2.2⟩
end Go.Proofs.YtadlmkgeplnemaaDoor
namespace Go.Proofs.YtadlmkgeplnemaaDoor
open Go.RowKit
def czTs (c : Cz) : List T := [.lit (.int .i64 c.kd), .lit (.int .i64 c.a), .lit (.int .i64 c.b)]
theorem czTs_len (c : Cz) : (czTs c).length = 3 := rfl
theorem Cz.at {l : List Cz} {k : Nat} {c : Cz} (h : l[k]? = some c) : ((l.flatMap czTs).drop (k * 3)).take 3 = czTs c := flat_at czTs 3 czTs_len h
theorem CzN.ia {c : Cz} (h : CzN c) : inI c.a := ⟨by have := h.a0; omega, h.a1⟩
section
variable {P : Program} {F : Frm} {L : Tab} {d : Option Tmp} {ty : TypeId} {pos : String} {aft : Array Edge} {g : Option (Nat × Bool)} {ρ : Operand → AV} {hp : List Blk} {K : AV → List Blk → Prop}
theorem zSpt {t : TypeId} {ti : TI} {x z : Operand} {l : List UInt8} {k2 : IntKind} {b : Int} (n : Nat) (hn : n ≤ l.length) (hK : K (.c (.lit (.string (bs (l.take n))))) hp) (hz2 : b = (n : Int) := by exact rfl) (hL : TabOk P L := by exact tok) (hx : ρ x = .c (.lit (.string (bs l))) := by exact rfl) (hw : ρ z = .c (.lit (.int k2 b)) := by exact rfl) (ht : L.look t = some ti := by exact rfl) (hd : ti.d = .string := by exact rfl) : LO P F ⟨d, .slice t x none (some z) none, ty, pos, aft, g⟩ ρ hp K := by
  refine LO.same (fun M e w he _ => ?_) hK
  have h1 := he x (by simp [Op.operands])
  rw [hx] at h1
  have h3 := he z (by simp [Op.operands])
  rw [hw] at h3
  simp only [RA, RT] at h1 h3
  subst hz2
  refine ⟨.string (bs (l.take n)), ?_, by simp only [RA, RT]⟩
  have hsz : (bs l).size = l.length := bs_size' l
  have hb2 := run_sliceBound (P := P) (w := w) k2 (n : Int) l.length .sliceAlen (by omega) (by omega)
  have he : (bs l).extract 0 n = bs (l.take n) := by
    unfold bs
    rw [ByteArray.extract_mk]
    congr 1
    try (apply Array.toList_inj.1; simp)
  simp [execOp, Instr.sliceAt, Instr.slice, Instr.sliceBounds, h1, h3, run_underlying (hL.string ht hd), hsz, hb2, he]
end
end Go.Proofs.YtadlmkgeplnemaaDoor
