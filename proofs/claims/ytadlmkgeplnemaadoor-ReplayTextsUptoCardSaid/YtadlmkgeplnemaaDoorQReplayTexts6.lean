/-
  Texts of this proof, part 6: Lbf Vad Vaf Lkc Lkg Lkd.
-/
import Derived.Test.YtadlmkgeplnemaaDoorQReplayTexts5
import Derived.ChangeKeysEq
import Derived.Laws.IdiomRangeMap
import Derived.Laws.StructEq
import Derived.Lib.AppendStr
import Derived.Lib.AppendZerosOnto
import Derived.Lib.MinMax
import Derived.MapKept
import Derived.WideLaws
namespace Go.Proofs.YtadlmkgeplnemaaDoor
open Go.RowKit
theorem gPow : Tryd.prog.globalNamed "internal/strconv.uint64pow10" = some 3 := by kernel_rfl
theorem glob_max {w : World} (h : Glob w) : ∃ m, w.cell? ⟨0, 0, none⟩ = some (.int .i64 m) := by
  obtain ⟨cs, t, fr, ⟨m, rfl⟩, e⟩ := h (0, fun cs => ∃ m, cs = #[.int .i64 m]) (by simp [globTab])
  exact ⟨m, by simp [World.cell?, e]⟩
theorem glob_syn {w : World} (h : Glob w) : ∃ ev, w.cell? ⟨1, 0, none⟩ = some ev ∧ (ev = .nilIface ∨ ∃ te pe, ev = .iface te pe) := by
  obtain ⟨cs, t, fr, ⟨ev, rfl, h1⟩, e⟩ := h (1, errC) (by simp [globTab])
  exact ⟨ev, by simp [World.cell?, e], h1⟩
theorem glob_rng {w : World} (h : Glob w) : ∃ ev, w.cell? ⟨2, 0, none⟩ = some ev ∧ (ev = .nilIface ∨ ∃ te pe, ev = .iface te pe) := by
  obtain ⟨cs, t, fr, ⟨ev, rfl, h1⟩, e⟩ := h (2, errC) (by simp [globTab])
  exact ⟨ev, by simp [World.cell?, e], h1⟩
theorem itoa_af (n : Int) (h : inI n) : AF Tryd.prog 24 [.lit (.int .i64 n)] (· = .lit (.string (bs (Lib.itoa n)))) := by
  refine ⟨⟨_, Tryd.func24, by kernel_rfl, by kernel_rfl⟩, fun M w vs hG hM hvs => ?_⟩
  simp only [RTs, RT] at hvs
  obtain ⟨x, r, rfl, rfl, rfl⟩ := hvs
  obtain ⟨cs, t, fr, rfl, e⟩ := hG (3, (· = (Lib.pow10Tab.map fun z => Value.int .u64 z).toArray)) (by simp [globTab])
  have htab : Lib.TabIs Tryd.prog w "internal/strconv.uint64pow10" .u64 Lib.pow10Tab := by
    unfold Lib.TabIs World.var?
    rw [gPow]
    simp only [Option.bind_some]
    rw [e]
  refine (lib_strconv_Itoa n h.1 h.2 w htab).mono fun e w' ⟨he, k, os, hw⟩ => ?_
  subst he
  have hb : Below w.heap.size w w' := by
    subst hw
    refine ⟨rfl, rfl, rfl, ?_, fun b hb => ?_⟩
    · show w.heap.size ≤ (w.heap ++ os).size
      simp
    · show (w.heap ++ os)[b]? = w.heap[b]?
      rw [Array.getElem?_append_left hb]
  exact ⟨_, _, M, rfl, rfl, Ext.refl _ _, hM.below hb, by simp only [RT]; rfl, hb⟩
def atoiO (s : ByteArray) : Option Int := match Lib.atoiAll s.data.toList with | .ok v => some v | _ => none
theorem atoi_af {s : ByteArray} {v : Int} (h : atoiO s = some v) (hs : s.size ≤ 1048576) : AF Tryd.prog 28 [.lit (.string s)] (· = .tup [.lit (.int .i64 v), .lit .nilIface]) := by
  refine ⟨⟨_, Tryd.func28, by kernel_rfl, by kernel_rfl⟩, fun M w vs hG hM hvs => ?_⟩
  simp only [RTs, RT] at hvs
  obtain ⟨x, r, rfl, rfl, rfl⟩ := hvs
  have h1 : Lib.atoiAll s.data.toList = .ok v := by
    unfold atoiO at h
    split at h
    · rename_i u hu; rw [hu]; cases h; rfl
    · cases h
  refine (lib_strconv_Atoi_ok s (by omega) v h1 w).mono fun e w' ⟨he, hw⟩ => ?_
  subst he
  have hb : Below w.heap.size w w' := by
    rcases hw with rfl | ⟨t, rfl⟩
    · exact Below.refl _ _
    · exact Lib.bytesWorld_below _ _ _
  exact ⟨_, _, M, rfl, rfl, Ext.refl _ _, hM.below hb, by simp only [RT, RTs]; exact ⟨[_, _], rfl, _, _, rfl, rfl, _, _, rfl, rfl, rfl⟩, hb⟩
theorem atoi_bad {s : ByteArray} (h : atoiO s = none) (hs : s.size ≤ 1048576) : AF Tryd.prog 28 [.lit (.string s)] (fun r => ∃ x te pe, r = .tup [.lit (.int .i64 x), .lit (.iface te pe)]) := by
  refine ⟨⟨_, Tryd.func28, by kernel_rfl, by kernel_rfl⟩, fun M w vs hG hM hvs => ?_⟩
  simp only [RTs, RT] at hvs
  obtain ⟨x, r, rfl, rfl, rfl⟩ := hvs
  cases h1 : Lib.atoiAll s.data.toList
  · unfold atoiO at h; rw [h1] at h; cases h
  · obtain ⟨ev, hv, hev⟩ := glob_syn hG
    refine (lib_strconv_Atoi_syntax s (by omega) h1 ev w hv hev).mono fun e w' ⟨N, he, _, _, hb⟩ => ?_
    subst he
    exact ⟨_, _, M, rfl, ⟨_, _, _, rfl⟩, Ext.refl _ _, hM.below hb, by simp only [RT, RTs]; exact ⟨[_, _], rfl, _, _, rfl, rfl, _, _, rfl, rfl, rfl⟩, hb⟩
  · obtain ⟨ev, hv, hev⟩ := glob_rng hG
    refine (lib_strconv_Atoi_range s (by omega) h1 ev w hv hev).mono fun e w' ⟨N, he, _, _, hb⟩ => ?_
    subst he
    exact ⟨_, _, M, rfl, ⟨_, _, _, rfl⟩, Ext.refl _ _, hM.below hb, by simp only [RT, RTs]; exact ⟨[_, _], rfl, _, _, rfl, rfl, _, _, rfl, rfl, rfl⟩, hb⟩
def cutB (s sep : ByteArray) : ByteArray × ByteArray × Bool := (bs (Lib.cut s.data.toList sep.data.toList).1, bs (Lib.cut s.data.toList sep.data.toList).2.1, (Lib.cut s.data.toList sep.data.toList).2.2)
theorem cut_af (s sep : ByteArray) (hs : s.size ≤ 1048576) : AF Tryd.prog 26 [.lit (.string s), .lit (.string sep)] (· = .tup [.lit (.string (cutB s sep).1), .lit (.string (cutB s sep).2.1), .lit (.bool (cutB s sep).2.2)]) := by
  refine ⟨⟨_, Tryd.func26, by kernel_rfl, by kernel_rfl⟩, fun M w vs hG hM hvs => ?_⟩
  simp only [RTs, RT] at hvs
  obtain ⟨x, r, rfl, rfl, y, r', rfl, rfl, rfl⟩ := hvs
  obtain ⟨m, hm⟩ := glob_max hG
  refine (lib_strings_Cut s sep m w (by omega) hm).mono fun e w' ⟨he, k, hw⟩ => ?_
  subst he
  have hb : Below w.heap.size w w' := by subst hw; exact ⟨rfl, rfl, rfl, Nat.le_refl _, fun _ _ => rfl⟩
  exact ⟨_, _, M, rfl, rfl, Ext.refl _ _, hM.below hb, by simp only [RT, RTs]; exact ⟨[_, _, _], rfl, _, _, rfl, rfl, _, _, rfl, rfl, _, _, rfl, rfl, rfl⟩, hb⟩
def splS (s sep : ByteArray) : List ByteArray := Lib.splitB sep 0 (Lib.countB s sep) s
theorem splS_len (s sep : ByteArray) (h1 : 1 ≤ sep.size) : (splS s sep).length = Lib.countB s sep + 1 := Lib.splitB_all sep h1 0 _ s rfl
theorem splS_le (s sep : ByteArray) (h1 : 1 ≤ sep.size) : (splS s sep).length ≤ s.size + 1 := by
  rw [splS_len s sep h1]
  have := Lib.countB_le sep h1 s.size s (Nat.le_refl _)
  omega
theorem splS_data (s sep : ByteArray) : (splS s sep).map (·.data.toList) = Lib.split s.data.toList sep.data.toList := Lib.splitB_data sep 0 _ s
theorem split_af (s sep : ByteArray) (hs : s.size ≤ 1048576) (h1 : 1 ≤ sep.size) : AF Tryd.prog 30 [.lit (.string s), .lit (.string sep)] (· = strRow (splS s sep)) := by
  refine ⟨⟨_, Tryd.func30, by kernel_rfl, by kernel_rfl⟩, fun M w vs hG hM hvs => ?_⟩
  simp only [RTs, RT] at hvs
  obtain ⟨x, r, rfl, rfl, y, r', rfl, rfl, rfl⟩ := hvs
  obtain ⟨m, hm⟩ := glob_max hG
  have hl := splS_len s sep h1
  have hle := splS_le s sep h1
  refine (lib_strings_Split s sep m w (by omega) hm h1).mono fun e w' ⟨he, hw⟩ => ?_
  rw [← hl] at he
  change w' = w.alloc (.cells ((splS s sep).map Value.string).toArray _) at hw
  generalize splS s sep = L at *
  subst he
  have hb : Below w.heap.size w w' := by subst hw; exact (Below.refl _ w).alloc (Nat.le_refl _) _
  have hM' : MemOk M w' := hM.below hb
  refine ⟨_, _, frz M w.heap.size w', rfl, rfl, frz_ext _ _, frz_ok hM' _, ?_, hb⟩
  rw [strRow]
  simp only [RT]
  refine ⟨_, _, L.map Value.string, rfl, Nat.le_refl _, by have : maxLen = 9223372036854775807 := rfl; omega, by omega, by simp, fun _ => ⟨_, rfl, fun j v hj => ?_⟩, strs_rts L⟩
  have hj' := hj
  rw [List.getElem?_map] at hj'
  rw [box_add, Nat.zero_add]
  have hcell : w'.cell? ⟨w.heap.size, j, none⟩ = some v := by
    subst hw
    rw [World.cell?_alloc_new, List.getElem?_toArray]
    exact hj
  have h0 : M ⟨w.heap.size, j, none⟩ = none := by
    cases hq : M ⟨w.heap.size, j, none⟩ with
    | none => rfl
    | some u =>
      have h2 := World.block_lt_of_cell? _ _ (hM _ _ hq).1
      exact absurd h2 (Nat.lt_irrefl _)
  refine frz_new h0 (Nat.le_refl _) hcell ?_
  cases hq : L[j]? with
  | none => rw [hq] at hj'; cases hj'
  | some u => rw [hq] at hj'; cases hj'; rfl
theorem ixb_af (s : ByteArray) (c : Int) : AF Tryd.prog 37 [.lit (.string s), .lit (.int .u8 c)] (· = .lit (.int .i64 (Lib.indexByte s.data.toList c.toNat.toUInt8))) := by
  refine ⟨⟨_, Tryd.func37, by kernel_rfl, by kernel_rfl⟩, fun M w vs hG hM hvs => ?_⟩
  simp only [RTs, RT] at hvs
  obtain ⟨x, r, rfl, rfl, y, r', rfl, rfl, rfl⟩ := hvs
  refine (lib_strings_IndexByte s c w).mono fun e w' ⟨he, hw⟩ => ?_
  subst he; subst hw
  exact ⟨_, _, M, rfl, rfl, Ext.refl _ _, hM, by simp only [RT], Below.refl _ _⟩
theorem index_af (s sub : ByteArray) (hs : s.size ≤ 1048576) : AF Tryd.prog 29 [.lit (.string s), .lit (.string sub)] (· = .lit (.int .i64 (Lib.index s.data.toList sub.data.toList))) := by
  refine ⟨⟨_, Tryd.func29, by kernel_rfl, by kernel_rfl⟩, fun M w vs hG hM hvs => ?_⟩
  simp only [RTs, RT] at hvs
  obtain ⟨x, r, rfl, rfl, y, r', rfl, rfl, rfl⟩ := hvs
  obtain ⟨m, hm⟩ := glob_max hG
  refine (lib_strings_Index s sub m w (by omega) hm).mono fun e w' ⟨he, hw⟩ => ?_
  subst he; subst hw
  exact ⟨_, _, M, rfl, rfl, Ext.refl _ _, hM, by simp only [RT], Below.refl _ _⟩
def joinS (l : List ByteArray) (sep : ByteArray) : ByteArray := ⟨(Lib.join (l.map (·.data.toList)) sep.data.toList).toArray⟩
theorem join_af (l : List ByteArray) (sep : ByteArray) (hN : l.length ≤ 140737488355328) (hlen : (Lib.join (l.map (·.data.toList)) sep.data.toList).length ≤ 140737488355328) :
    AF Tryd.prog 34 [strRow l, .lit (.string sep)] (· = .lit (.string (joinS l sep))) := by
  refine ⟨⟨_, Tryd.func34, by kernel_rfl, by kernel_rfl⟩, fun M w vs _ hM hvs => ?_⟩
  simp only [RTs, strRow, RT] at hvs
  obtain ⟨x, r, rfl, ⟨A, c, xs, rfl, hc, hm, _, hxl, hat, hxs⟩, y, r', rfl, rfl, rfl⟩ := hvs
  cases l with
  | nil =>
    refine (lib_strings_Join_none A c sep w).mono fun e w' ⟨he, hw⟩ => ?_
    subst he; subst hw
    exact ⟨_, _, M, rfl, rfl, Ext.refl _ _, hM, by simp only [RT]; rfl, Below.refl _ _⟩
  | cons s l =>
    obtain ⟨ad, rfl, hA⟩ := hat (by simp)
    have hcell : ∀ (j : Nat) (x : ByteArray), (s :: l)[j]? = some x → w.cell? (ad.add j) = some (.string x) := by
      intro j x hj
      obtain ⟨u, hu, hr⟩ := hxs.get (str_at hj)
      simp only [RT] at hr
      subst hr
      exact (hM _ _ (hA j _ hu)).1
    have h0 := hcell 0 s rfl
    have hsp : ad.spot = none := by
      unfold World.cell? at h0
      split at h0
      · split at h0
        · cases h0
        · rename_i hns
          cases hs : ad.spot with
          | none => rfl
          | some z => exact absurd (by simp [Addr.add, hs]) hns
      · cases h0
    obtain ⟨bk, o, sp⟩ := ad
    simp only at hsp
    subst hsp
    have hbk : bk < w.heap.size := by
      unfold World.cell? at h0
      split at h0
      · rename_i hb
        exact (Array.getElem?_eq_some_iff.1 hb).1
      · cases h0
    refine (lib_strings_Join bk o c (s :: l) sep w (fun j x hj => by have := hcell j x hj; rw [box_add] at this; exact this) hbk hN hc hlen).mono fun e w' ⟨he, hb⟩ => ?_
    subst he
    exact ⟨_, _, M, rfl, rfl, Ext.refl _ _, hM.below hb, by simp only [RT]; rfl, hb⟩
section
variable {P : Program} {F : Frm} {d : Option Tmp} {ty : TypeId} {pos : String} {aft : Array Edge} {g : Option (Nat × Bool)} {ρ : Operand → AV} {hp : List Blk} {K : AV → List Blk → Prop} {t t' te : TypeId} {x : Operand} {c pe : Value}
theorem zEr0 (h : K (.c (.lit (.bool false))) hp) (hu : P.underlying t = some (.interface (P.methodsAt t)) := by kernel_rfl) (hx : ρ x = .c (.lit .nilIface) := by exact rfl) (hy : ρ (.const c) = .c (.lit .nilIface) := by exact rfl) : LO P F ⟨d, .binOp .neq t x (.const c) t', ty, pos, aft, g⟩ ρ hp K := by
  refine LO.same (fun M e w he hh => ?_) h
  have h1 := he x (by first | (simp [Op.operands]; done) | simp [Op.operands, Call.operands])
  rw [hx] at h1
  have h2 := he (.const c) (by first | (simp [Op.operands]; done) | simp [Op.operands, Call.operands])
  rw [hy] at h2
  simp only [RA, RT] at h1 h2
  refine ⟨.bool false, ?_, by simp only [RA, RT]⟩
  simp [execOp, h1, h2, eqGuard_nil_constR, run_neq_nil_nil w t hu]
theorem zEr1 (h : K (.c (.lit (.bool true))) hp) (hu : P.underlying t = some (.interface (P.methodsAt t)) := by kernel_rfl) (hx : ρ x = .c (.lit (.iface te pe)) := by exact rfl) (hy : ρ (.const c) = .c (.lit .nilIface) := by exact rfl) : LO P F ⟨d, .binOp .neq t x (.const c) t', ty, pos, aft, g⟩ ρ hp K := by
  refine LO.same (fun M e w he hh => ?_) h
  have h1 := he x (by first | (simp [Op.operands]; done) | simp [Op.operands, Call.operands])
  rw [hx] at h1
  have h2 := he (.const c) (by first | (simp [Op.operands]; done) | simp [Op.operands, Call.operands])
  rw [hy] at h2
  simp only [RA, RT] at h1 h2
  refine ⟨.bool true, ?_, by simp only [RA, RT]⟩
  have hg : eqGuard .neq t x (.const c) (.iface te pe) .nilIface = pure () := by cases x <;> rfl
  simp [execOp, h1, h2, hg, run_neq_held_nil w t te pe hu]
end
end Go.Proofs.YtadlmkgeplnemaaDoor
namespace Go.Proofs.YtadlmkgeplnemaaDoor
open Go.RowKit
def rgTs (r : Rg) : List T := [.lit (.int .i64 r.1), .lit (.int .i64 r.2)]
theorem rgTs_len (r : Rg) : (rgTs r).length = 2 := rfl
theorem Rg.at {l : List Rg} {k : Nat} {r : Rg} (h : l[k]? = some r) : ((l.flatMap rgTs).drop (k * 2)).take 2 = rgTs r := flat_at rgTs 2 rgTs_len h
end Go.Proofs.YtadlmkgeplnemaaDoor
namespace Go.Proofs.YtadlmkgeplnemaaDoor
open Go.RowKit
def BitsOf (l : List Rg) (bl : List Bool) : Prop := bl.length = 10001 ∧ ∀ i : Nat, i < 10001 → bl[i]? = some (inB l i)
def BitsTo (l : List Rg) (r : Rg) (m : Nat) (bl : List Bool) : Prop := bl.length = 10001 ∧ ∀ i : Nat, i < 10001 → bl[i]? = some (inB l i || (decide (r.1 ≤ i) && decide (i < m)))
theorem BitsTo.set {l : List Rg} {bl : List Bool} {r : Rg} {m : Nat} (h : BitsTo l r m bl) (hm : r.1 ≤ m) (hb : m < 10001) : BitsTo l r (m + 1) (bl.set m true) := by
  refine ⟨by rw [List.length_set]; exact h.1, fun i hi => ?_⟩
  rw [List.getElem?_set]
  by_cases he : m = i
  · subst he
    rw [if_pos rfl, if_pos (by rw [h.1]; exact hb), decide_eq_true hm, decide_eq_true (by omega), Bool.and_true, Bool.or_true]
  · rw [if_neg he, h.2 i hi]
    have : decide (i < m + 1) = decide (i < m) := decide_eq_decide.2 (by omega)
    rw [this]
theorem BitsTo.done {l : List Rg} {bl : List Bool} {r : Rg} {m : Nat} (h : BitsTo l r m bl) (hm : (m : Int) = r.2 + 1) : BitsOf (l ++ [r]) bl := by
  refine ⟨h.1, fun i hi => ?_⟩
  rw [h.2 i hi]
  have : decide (i < m) = decide ((i : Int) ≤ r.2) := decide_eq_decide.2 (by omega)
  rw [this]
  simp [inB]
end Go.Proofs.YtadlmkgeplnemaaDoor
namespace Go.Proofs.YtadlmkgeplnemaaDoor
open Go.RowKit
theorem RgN.i2 {r : Int × Int} (h : RgN r) : inI r.2 := ⟨by have := h.l2; omega, h.h2⟩
theorem map_snoc {α β : Type} (f : α → β) {l : List α} {k : Nat} {a : α} (h : l[k]? = some a) : (l.take (k + 1)).map f = (l.take k).map f ++ [f a] := by
  obtain ⟨h1, rfl⟩ := List.getElem?_eq_some_iff.1 h
  rw [List.take_succ_eq_append_getElem h1, List.map_append]
  rfl
end Go.Proofs.YtadlmkgeplnemaaDoor
namespace Go.Proofs.YtadlmkgeplnemaaDoor
open Go.RowKit
def czTs (c : Cz) : List T := [.lit (.int .i64 c.kd), .lit (.int .i64 c.a), .lit (.int .i64 c.b)]
theorem czTs_len (c : Cz) : (czTs c).length = 3 := rfl
def czRow (l : List Cz) : T := .row l.length 3 (l.flatMap czTs)
theorem Cz.at {l : List Cz} {k : Nat} {c : Cz} (h : l[k]? = some c) : ((l.flatMap czTs).drop (k * 3)).take 3 = czTs c := flat_at czTs 3 czTs_len h
theorem CzN.ia {c : Cz} (h : CzN c) : inI c.a := ⟨by have := h.a0; omega, h.a1⟩
theorem CzN.ib {c : Cz} (h : CzN c) : inI c.b := ⟨by have := h.b0; omega, h.b1⟩
theorem join_ct (l : List Cz) : joinS (l.map fun r => bs (itC r)) ⟨#[32]⟩ = bs (ctL l) := by
  unfold joinS ctL
  rw [List.map_map, show ((fun x : ByteArray => x.data.toList) ∘ fun r => bs (itC r)) = itC from funext fun r => by simp [bs]]
  rfl
theorem ct_len {l : List Cz} (h : ∀ r ∈ l, CzN r) : (ctL l).length ≤ 41 * l.length := by
  have := join_len (c := 32) (n := 40) (l.map itC) (fun x hx => by
    obtain ⟨r, hr, rfl⟩ := List.mem_map.1 hx
    exact itC_len (h r hr))
  rw [List.length_map] at this
  exact this
theorem any_snoc {α : Type} {p : α → Bool} {l : List α} {k : Nat} {a : α} (h : l[k]? = some a) (h0 : (l.take k).any p = false) (h1 : p a = false) : (l.take (k + 1)).any p = false := by
  obtain ⟨h2, rfl⟩ := List.getElem?_eq_some_iff.1 h
  rw [List.take_succ_eq_append_getElem h2, List.any_append, h0, List.any_cons, h1]
  rfl
theorem ctV_bad {l : List Cz} {k : Nat} {c : Cz} (h : l[k]? = some c) (hb : badC c = true) : ctV l = (⟨#[]⟩, 3) := by
  have : l.any badC = true := List.any_eq_true.2 ⟨c, List.mem_of_getElem? h, hb⟩
  unfold ctV
  rw [this]
  rfl
theorem ctV_good {l : List Cz} (h : l.any badC = false) : ctV l = (bs (ctL l), 0) := by unfold ctV; rw [h]; rfl
section
variable {P : Program} {F : Frm} {L : Tab} {d : Option Tmp} {ty : TypeId} {pos : String} {aft : Array Edge} {g : Option (Nat × Bool)} {ρ : Operand → AV} {hp : List Blk} {K : AV → List Blk → Prop}
/-- a part of a string, from and to -/
theorem zSpb {t : TypeId} {ti : TI} {x y z : Operand} {l : List UInt8} {k k2 : IntKind} {a b : Int} (m n : Nat) (hm : m ≤ n) (hn : n ≤ l.length) (hK : K (.c (.lit (.string (bs ((l.take n).drop m))))) hp) (hz : a = (m : Int) := by exact rfl) (hz2 : b = (n : Int) := by exact rfl) (hL : TabOk P L := by exact tok) (hx : ρ x = .c (.lit (.string (bs l))) := by exact rfl) (hy : ρ y = .c (.lit (.int k a)) := by exact rfl) (hw : ρ z = .c (.lit (.int k2 b)) := by exact rfl) (ht : L.look t = some ti := by exact rfl) (hd : ti.d = .string := by exact rfl) : LO P F ⟨d, .slice t x (some y) (some z) none, ty, pos, aft, g⟩ ρ hp K := by
  refine LO.same (fun M e w he _ => ?_) hK
  have h1 := he x (by simp [Op.operands])
  rw [hx] at h1
  have h2 := he y (by simp [Op.operands])
  rw [hy] at h2
  have h3 := he z (by simp [Op.operands])
  rw [hw] at h3
  simp only [RA, RT] at h1 h2 h3
  subst hz hz2
  refine ⟨.string (bs ((l.take n).drop m)), ?_, by simp only [RA, RT]⟩
  have hsz : (bs l).size = l.length := bs_size' l
  have hb := run_sliceBound (P := P) (w := w) k (m : Int) n .sliceB (by omega) (by omega)
  have hb2 := run_sliceBound (P := P) (w := w) k2 (n : Int) l.length .sliceAlen (by omega) (by omega)
  have he : (bs l).extract m n = bs ((l.take n).drop m) := by
    unfold bs
    rw [ByteArray.extract_mk]
    congr 1
    apply Array.toList_inj.1
    simp [List.drop_take]
  simp [execOp, Instr.sliceAt, Instr.slice, Instr.sliceBounds, h1, h2, h3, run_underlying (hL.string ht hd), hsz, hb, hb2, he]
theorem zSpt {t : TypeId} {ti : TI} {x z : Operand} {l : List UInt8} {k2 : IntKind} {b : Int} (n : Nat) (hn : n ≤ l.length) (hK : K (.c (.lit (.string (bs (l.take n))))) hp) (hz2 : b = (n : Int) := by exact rfl) (hL : TabOk P L := by exact tok) (hx : ρ x = .c (.lit (.string (bs l))) := by exact rfl) (hw : ρ z = .c (.lit (.int k2 b)) := by exact rfl) (ht : L.look t = some ti := by exact rfl) (hd : ti.d = .string := by exact rfl) : LO P F ⟨d, .slice t x none (some z) none, ty, pos, aft, g⟩ ρ hp K := by
  refine LO.same (fun M e w he _ => ?_) hK
  have h1 := he x (by simp [Op.operands])
  rw [hx] at h1
  have h3 := he z (by simp [Op.operands])
  rw [hw] at h3
  simp only [RA, RT] at h1 h3
  subst hz2
  refine ⟨.string (bs (l.take n)), ?_, by simp only [RA, RT]⟩
  have hsz : (bs l).size = l.length := bs_size' l
  have hb2 := run_sliceBound (P := P) (w := w) k2 (n : Int) l.length .sliceAlen (by omega) (by omega)
  have he : (bs l).extract 0 n = bs (l.take n) := by
    unfold bs
    rw [ByteArray.extract_mk]
    congr 1
    try (apply Array.toList_inj.1; simp)
  simp [execOp, Instr.sliceAt, Instr.slice, Instr.sliceBounds, h1, h3, run_underlying (hL.string ht hd), hsz, hb2, he]
end
set_option maxRecDepth 100000 in
set_option maxHeartbeats 8000000 in
theorem cText_af (l : List Cz) (hl : l.length ≤ 1048577) (hi : ∀ c ∈ l, CzI c) : AF Tryd.prog 19 [czRow l] (· = .tup [.lit (.string (ctV l).1), .lit (.int .i64 (ctV l).2)]) := by
  refine af_enter tok Tryd.func19 Tryd.ntmps19 Tryd.results19 rfl (by kernel_rfl) rfl rfl fun F hX => ?_
  repeat (first | refine gG ?_ | refine zN1 (fun hlen => ?_) | refine zN2 (fun hlen => ?_) | refine zSub ?_ | refine zAl (fun _ => ?_) | refine zAp (fun _ => ?_))
  refine x_own 4 9 1 rfl rfl rfl rfl rfl ?_
  refine x_loop [2, 3, 4, 6, 7, 10, 11, 12, 13, 14, 15, 16, 17, 18, 19, 20, 21, 22, 23, 24, 25, 26, 27, 28, 29, 30, 31, 32, 33, 34, 35, 36, 37, 38, 39, 40, 41, 42, 43, 44, 45, 46, 47, 48, 49, 50, 51, 52, 53, 54, 55, 56, 57, 58, 59, 60, 61, 62, 63, 64, 65] (fun y : Nat × Value => [(10, .c (.lit (.int .i64 (y.1 : Nat)))), (4, .own 0 y.2)]) (fun y => [.row y.2 9 1 ((l.take y.1).map fun r => bs (itC r)).length (((l.take y.1).map fun r => bs (itC r)).flatMap strTs)])
    (fun y => y.1 ≤ l.length ∧ (l.take y.1).any badC = false) (fun y => l.length - y.1) (0, .slice none 0 0) ⟨Nat.zero_le _, rfl⟩ ⟨rfl, rfl, trivial⟩ rfl ?_
  rintro ⟨k, v⟩ ⟨hk, hA⟩
  dsimp only at hk hA ⊢
  repeat (first | refine gG ?_ | refine zN1 (fun hlen => ?_) | refine zN2 (fun hlen => ?_) | refine zSub ?_ | refine zAl (fun _ => ?_) | refine zAp (fun _ => ?_))
  refine x_cond rfl (fun h => ?_) (fun h => ?_)
  · skip
    have hk' : k < l.length := by simpa using h
    obtain ⟨c, hc⟩ := nth hk'
    have hat := Cz.at hc
    cases hb : badC c with
    | true =>
      rw [ctV_bad hc hb]
      clear h hc hA hi
      obtain ⟨kd, a, b⟩ := c
      unfold badC at hb
      dsimp only at hb
      cases d1 : decide (kd < 1) with
      | true =>
        clear hb
        repeat (first | refine gG ?_ | refine zN1 (fun hlen => ?_) | refine zN2 (fun hlen => ?_) | refine zSub ?_ | refine zAl (fun _ => ?_) | refine zAp (fun _ => ?_))
        refine zIx (k) (hk') ?_
        repeat (first | refine gG ?_ | refine zN1 (fun hlen => ?_) | refine zN2 (fun hlen => ?_) | refine zSub ?_ | refine zAl (fun _ => ?_) | refine zAp (fun _ => ?_))
        refine zEl (hat) (czTs_len _) ?_
        repeat (first | refine gG ?_ | refine zN1 (fun hlen => ?_) | refine zN2 (fun hlen => ?_) | refine zSub ?_ | refine zAl (fun _ => ?_) | refine zAp (fun _ => ?_))
        first | refine zR ?_ | refine zQ ?_
        rfl
      | false =>
        rw [d1, Bool.false_or] at hb
        cases d2 : decide (3 < kd) with
        | true =>
          clear hb
          repeat (first | refine gG ?_ | refine zN1 (fun hlen => ?_) | refine zN2 (fun hlen => ?_) | refine zSub ?_ | refine zAl (fun _ => ?_) | refine zAp (fun _ => ?_))
          refine zIx (k) (hk') ?_
          repeat (first | refine gG ?_ | refine zN1 (fun hlen => ?_) | refine zN2 (fun hlen => ?_) | refine zSub ?_ | refine zAl (fun _ => ?_) | refine zAp (fun _ => ?_))
          refine zEl (hat) (czTs_len _) ?_
          repeat (first | refine gG ?_ | refine zN1 (fun hlen => ?_) | refine zN2 (fun hlen => ?_) | refine zSub ?_ | refine zAl (fun _ => ?_) | refine zAp (fun _ => ?_))
          first | refine zR ?_ | refine zQ ?_
          rfl
        | false =>
          rw [d2, Bool.false_or] at hb
          cases d3 : decide (a < 0) with
          | true =>
            clear hb
            repeat (first | refine gG ?_ | refine zN1 (fun hlen => ?_) | refine zN2 (fun hlen => ?_) | refine zSub ?_ | refine zAl (fun _ => ?_) | refine zAp (fun _ => ?_))
            refine zIx (k) (hk') ?_
            repeat (first | refine gG ?_ | refine zN1 (fun hlen => ?_) | refine zN2 (fun hlen => ?_) | refine zSub ?_ | refine zAl (fun _ => ?_) | refine zAp (fun _ => ?_))
            refine zEl (hat) (czTs_len _) ?_
            repeat (first | refine gG ?_ | refine zN1 (fun hlen => ?_) | refine zN2 (fun hlen => ?_) | refine zSub ?_ | refine zAl (fun _ => ?_) | refine zAp (fun _ => ?_))
            first | refine zR ?_ | refine zQ ?_
            rfl
          | false =>
            rw [d3, Bool.false_or] at hb
            cases d4 : decide (b < 0) with
            | true =>
              clear hb
              repeat (first | refine gG ?_ | refine zN1 (fun hlen => ?_) | refine zN2 (fun hlen => ?_) | refine zSub ?_ | refine zAl (fun _ => ?_) | refine zAp (fun _ => ?_))
              refine zIx (k) (hk') ?_
              repeat (first | refine gG ?_ | refine zN1 (fun hlen => ?_) | refine zN2 (fun hlen => ?_) | refine zSub ?_ | refine zAl (fun _ => ?_) | refine zAp (fun _ => ?_))
              refine zEl (hat) (czTs_len _) ?_
              repeat (first | refine gG ?_ | refine zN1 (fun hlen => ?_) | refine zN2 (fun hlen => ?_) | refine zSub ?_ | refine zAl (fun _ => ?_) | refine zAp (fun _ => ?_))
              first | refine zR ?_ | refine zQ ?_
              rfl
            | false =>
              rw [d4, Bool.false_or] at hb
              rw [Bool.and_eq_true] at hb
              obtain ⟨h5, h6⟩ := hb
              have d5 : decide (b = 0) = false := by simpa using h5
              have d6 : decide (kd = 2) = false := by simpa using h6
              clear h5 h6
              repeat (first | refine gG ?_ | refine zN1 (fun hlen => ?_) | refine zN2 (fun hlen => ?_) | refine zSub ?_ | refine zAl (fun _ => ?_) | refine zAp (fun _ => ?_))
              refine zIx (k) (hk') ?_
              repeat (first | refine gG ?_ | refine zN1 (fun hlen => ?_) | refine zN2 (fun hlen => ?_) | refine zSub ?_ | refine zAl (fun _ => ?_) | refine zAp (fun _ => ?_))
              refine zEl (hat) (czTs_len _) ?_
              repeat (first | refine gG ?_ | refine zN1 (fun hlen => ?_) | refine zN2 (fun hlen => ?_) | refine zSub ?_ | refine zAl (fun _ => ?_) | refine zAp (fun _ => ?_))
              first | refine zR ?_ | refine zQ ?_
              rfl
    | false =>
      have hN := czN_of hb (hi c (List.mem_of_getElem? hc))
      have hA2 := any_snoc hc hA hb
      have hsn := map_snoc (fun r : Cz => bs (itC r)) hc
      have hle : ((l.take k).map fun r => bs (itC r)).length ≤ 1048577 := by rw [List.length_map, List.length_take]; omega
      have ha := itoa_af c.a hN.ia
      have hbb := itoa_af c.b hN.ib
      have la := itoa_len hN.a0 hN.a1
      have lb := itoa_len hN.b0 hN.b1
      have hit : itC c = ltrL c.kd ++ (Lib.itoa c.a ++ (if c.kd = 2 then 45 :: Lib.itoa c.b else [])) := rfl
      generalize (l.take k).map (fun r => bs (itC r)) = A at *
      generalize itC c = it at *
      clear h hb hc hi hA
      obtain ⟨kd, a, b⟩ := c
      obtain ⟨k1, k3, a0, a1, b0, b1, bk⟩ := hN
      dsimp only at *
      have hkd : kd = 1 ∨ kd = 2 ∨ kd = 3 := by omega
      rcases hkd with rfl | rfl | rfl
      · skip
        have hb0 : b = 0 := by rcases bk with h | h; exact h; exact absurd h (by decide)
        subst hb0
        clear hbb lb bk
        rw [if_neg (show ¬ (1 : Int) = 2 by decide), List.append_nil] at hit
        change it = [103] ++ Lib.itoa a at hit
        subst hit
        generalize Lib.itoa a = ia at *
        have d1 : decide ((1 : Int) < 1) = false := by decide
        have d2 : decide ((3 : Int) < 1) = false := by decide
        have d6 : decide ((1 : Int) = 2) = false := by decide
        have d3 : decide (a < 0) = false := decide_eq_false (by omega)
        have d4 : decide ((0 : Int) < 0) = false := by decide
        have d5 : decide ((0 : Int) = 0) = true := by decide
        repeat (first | refine gG ?_ | refine zN1 (fun hlen => ?_) | refine zN2 (fun hlen => ?_) | refine zSub ?_ | refine zAl (fun _ => ?_) | refine zAp (fun _ => ?_))
        refine zIx (k) (hk') ?_
        repeat (first | refine gG ?_ | refine zN1 (fun hlen => ?_) | refine zN2 (fun hlen => ?_) | refine zSub ?_ | refine zAl (fun _ => ?_) | refine zAp (fun _ => ?_))
        refine zEl (hat) (czTs_len _) ?_
        repeat (first | refine gG ?_ | refine zN1 (fun hlen => ?_) | refine zN2 (fun hlen => ?_) | refine zSub ?_ | refine zAl (fun _ => ?_) | refine zAp (fun _ => ?_))
        refine ac_draw [1, 1, 1, 1, 1, 1, 1, 1, 1, 1, 1] [0, 1, 2, 3, 4, 5, 6, 7, 8, 9, 10] (by kernel_rfl) (by kernel_rfl) ?_
        refine gW ?_
        apply w_q; (focus exact rfl); (focus exact rfl); focus (intro _; (refine zSub ?_); exact det_refl)
        refine gW ?_
        apply w_q; (focus exact rfl); (focus exact rfl); focus (intro _; (refine zSpb (l := [103, 99, 108]) 0 1 (by decide) (by decide) ?_); exact det_refl)
        refine gW ?_
        apply w_q; (focus exact rfl); (focus exact rfl); focus (intro _; (refine zCall ha ?_; rintro _ rfl); exact det_refl)
        apply w_q; (focus exact rfl); (focus exact rfl); focus (intro _; (refine zCatb [103] ia (by simp; omega) ?_); exact det_refl)
        refine gW ?_
        refine w_nil ?_
        repeat (first | refine gG ?_ | refine zN1 (fun hlen => ?_) | refine zN2 (fun hlen => ?_) | refine zSub ?_ | refine zAl (fun _ => ?_) | refine zAp (fun _ => ?_))
        exact ⟨(k + 1, _), ⟨hk', hA2⟩, by simp only; omega, x_wkd 1 ⟨rfl, rfl, trivial⟩ (by dsimp only; rw [hsn]; simp only [List.length_append, List.flatMap_append]; rfl) (by repeat (first | exact ag_refl | refine ag_upd rfl ?_ | refine ag_at rfl rfl ?_))⟩
      · skip
        clear bk
        rw [if_pos (show (2 : Int) = 2 from rfl)] at hit
        change it = [99] ++ (Lib.itoa a ++ ([45] ++ Lib.itoa b)) at hit
        subst hit
        generalize Lib.itoa a = ia at *
        generalize Lib.itoa b = ib at *
        have d1 : decide ((2 : Int) < 1) = false := by decide
        have d2 : decide ((3 : Int) < 2) = false := by decide
        have d6 : decide ((2 : Int) = 2) = true := by decide
        have d3 : decide (a < 0) = false := decide_eq_false (by omega)
        have d4 : decide (b < 0) = false := decide_eq_false (by omega)
        cases d5 : decide (b = 0) with
        | true =>
          repeat (first | refine gG ?_ | refine zN1 (fun hlen => ?_) | refine zN2 (fun hlen => ?_) | refine zSub ?_ | refine zAl (fun _ => ?_) | refine zAp (fun _ => ?_))
          refine zIx (k) (hk') ?_
          repeat (first | refine gG ?_ | refine zN1 (fun hlen => ?_) | refine zN2 (fun hlen => ?_) | refine zSub ?_ | refine zAl (fun _ => ?_) | refine zAp (fun _ => ?_))
          refine zEl (hat) (czTs_len _) ?_
          repeat (first | refine gG ?_ | refine zN1 (fun hlen => ?_) | refine zN2 (fun hlen => ?_) | refine zSub ?_ | refine zAl (fun _ => ?_) | refine zAp (fun _ => ?_))
          refine ac_draw [1, 1, 1, 1, 1, 1, 1, 1, 1, 1, 1] [0, 1, 2, 3, 4, 5, 6, 7, 8, 9, 10] (by kernel_rfl) (by kernel_rfl) ?_
          refine gW ?_
          apply w_q; (focus exact rfl); (focus exact rfl); focus (intro _; (refine zSub ?_); exact det_refl)
          refine gW ?_
          apply w_q; (focus exact rfl); (focus exact rfl); focus (intro _; (refine zSpb (l := [103, 99, 108]) 1 2 (by decide) (by decide) ?_); exact det_refl)
          refine gW ?_
          apply w_q; (focus exact rfl); (focus exact rfl); focus (intro _; (refine zCall ha ?_; rintro _ rfl); exact det_refl)
          apply w_q; (focus exact rfl); (focus exact rfl); focus (intro _; (refine zCatb [99] ia (by simp; omega) ?_); exact det_refl)
          refine gW ?_
          refine w_nil ?_
          repeat (first | refine gG ?_ | refine zN1 (fun hlen => ?_) | refine zN2 (fun hlen => ?_) | refine zSub ?_ | refine zAl (fun _ => ?_) | refine zAp (fun _ => ?_))
          refine zCall (hbb) ?_
          rintro _ rfl
          repeat (first | refine gG ?_ | refine zN1 (fun hlen => ?_) | refine zN2 (fun hlen => ?_) | refine zSub ?_ | refine zAl (fun _ => ?_) | refine zAp (fun _ => ?_))
          refine zCatb [45] ib (by simp; omega) ?_
          repeat (first | refine gG ?_ | refine zN1 (fun hlen => ?_) | refine zN2 (fun hlen => ?_) | refine zSub ?_ | refine zAl (fun _ => ?_) | refine zAp (fun _ => ?_))
          refine zCatb ([99] ++ ia) ([45] ++ ib) (by simp; omega) ?_
          repeat (first | refine gG ?_ | refine zN1 (fun hlen => ?_) | refine zN2 (fun hlen => ?_) | refine zSub ?_ | refine zAl (fun _ => ?_) | refine zAp (fun _ => ?_))
          rw [List.append_assoc]
          exact ⟨(k + 1, _), ⟨hk', hA2⟩, by simp only; omega, x_wkd 1 ⟨rfl, rfl, trivial⟩ (by dsimp only; rw [hsn]; simp only [List.length_append, List.flatMap_append]; rfl) (by repeat (first | exact ag_refl | refine ag_upd rfl ?_ | refine ag_at rfl rfl ?_))⟩
        | false =>
          repeat (first | refine gG ?_ | refine zN1 (fun hlen => ?_) | refine zN2 (fun hlen => ?_) | refine zSub ?_ | refine zAl (fun _ => ?_) | refine zAp (fun _ => ?_))
          refine zIx (k) (hk') ?_
          repeat (first | refine gG ?_ | refine zN1 (fun hlen => ?_) | refine zN2 (fun hlen => ?_) | refine zSub ?_ | refine zAl (fun _ => ?_) | refine zAp (fun _ => ?_))
          refine zEl (hat) (czTs_len _) ?_
          repeat (first | refine gG ?_ | refine zN1 (fun hlen => ?_) | refine zN2 (fun hlen => ?_) | refine zSub ?_ | refine zAl (fun _ => ?_) | refine zAp (fun _ => ?_))
          refine ac_draw [1, 1, 1, 1, 1, 1, 1, 1, 1, 1, 1] [0, 1, 2, 3, 4, 5, 6, 7, 8, 9, 10] (by kernel_rfl) (by kernel_rfl) ?_
          refine gW ?_
          apply w_q; (focus exact rfl); (focus exact rfl); focus (intro _; (refine zSub ?_); exact det_refl)
          refine gW ?_
          apply w_q; (focus exact rfl); (focus exact rfl); focus (intro _; (refine zSpb (l := [103, 99, 108]) 1 2 (by decide) (by decide) ?_); exact det_refl)
          refine gW ?_
          apply w_q; (focus exact rfl); (focus exact rfl); focus (intro _; (refine zCall ha ?_; rintro _ rfl); exact det_refl)
          apply w_q; (focus exact rfl); (focus exact rfl); focus (intro _; (refine zCatb [99] ia (by simp; omega) ?_); exact det_refl)
          refine gW ?_
          refine w_nil ?_
          repeat (first | refine gG ?_ | refine zN1 (fun hlen => ?_) | refine zN2 (fun hlen => ?_) | refine zSub ?_ | refine zAl (fun _ => ?_) | refine zAp (fun _ => ?_))
          refine zCall (hbb) ?_
          rintro _ rfl
          repeat (first | refine gG ?_ | refine zN1 (fun hlen => ?_) | refine zN2 (fun hlen => ?_) | refine zSub ?_ | refine zAl (fun _ => ?_) | refine zAp (fun _ => ?_))
          refine zCatb [45] ib (by simp; omega) ?_
          repeat (first | refine gG ?_ | refine zN1 (fun hlen => ?_) | refine zN2 (fun hlen => ?_) | refine zSub ?_ | refine zAl (fun _ => ?_) | refine zAp (fun _ => ?_))
          refine zCatb ([99] ++ ia) ([45] ++ ib) (by simp; omega) ?_
          repeat (first | refine gG ?_ | refine zN1 (fun hlen => ?_) | refine zN2 (fun hlen => ?_) | refine zSub ?_ | refine zAl (fun _ => ?_) | refine zAp (fun _ => ?_))
          rw [List.append_assoc]
          exact ⟨(k + 1, _), ⟨hk', hA2⟩, by simp only; omega, x_wkd 1 ⟨rfl, rfl, trivial⟩ (by dsimp only; rw [hsn]; simp only [List.length_append, List.flatMap_append]; rfl) (by repeat (first | exact ag_refl | refine ag_upd rfl ?_ | refine ag_at rfl rfl ?_))⟩
      · skip
        have hb0 : b = 0 := by rcases bk with h | h; exact h; exact absurd h (by decide)
        subst hb0
        clear hbb lb bk
        rw [if_neg (show ¬ (3 : Int) = 2 by decide), List.append_nil] at hit
        change it = [108] ++ Lib.itoa a at hit
        subst hit
        generalize Lib.itoa a = ia at *
        have d1 : decide ((3 : Int) < 1) = false := by decide
        have d2 : decide ((3 : Int) < 3) = false := by decide
        have d6 : decide ((3 : Int) = 2) = false := by decide
        have d3 : decide (a < 0) = false := decide_eq_false (by omega)
        have d4 : decide ((0 : Int) < 0) = false := by decide
        have d5 : decide ((0 : Int) = 0) = true := by decide
        repeat (first | refine gG ?_ | refine zN1 (fun hlen => ?_) | refine zN2 (fun hlen => ?_) | refine zSub ?_ | refine zAl (fun _ => ?_) | refine zAp (fun _ => ?_))
        refine zIx (k) (hk') ?_
        repeat (first | refine gG ?_ | refine zN1 (fun hlen => ?_) | refine zN2 (fun hlen => ?_) | refine zSub ?_ | refine zAl (fun _ => ?_) | refine zAp (fun _ => ?_))
        refine zEl (hat) (czTs_len _) ?_
        repeat (first | refine gG ?_ | refine zN1 (fun hlen => ?_) | refine zN2 (fun hlen => ?_) | refine zSub ?_ | refine zAl (fun _ => ?_) | refine zAp (fun _ => ?_))
        refine ac_draw [1, 1, 1, 1, 1, 1, 1, 1, 1, 1, 1] [0, 1, 2, 3, 4, 5, 6, 7, 8, 9, 10] (by kernel_rfl) (by kernel_rfl) ?_
        refine gW ?_
        apply w_q; (focus exact rfl); (focus exact rfl); focus (intro _; (refine zSub ?_); exact det_refl)
        refine gW ?_
        apply w_q; (focus exact rfl); (focus exact rfl); focus (intro _; (refine zSpb (l := [103, 99, 108]) 2 3 (by decide) (by decide) ?_); exact det_refl)
        refine gW ?_
        apply w_q; (focus exact rfl); (focus exact rfl); focus (intro _; (refine zCall ha ?_; rintro _ rfl); exact det_refl)
        apply w_q; (focus exact rfl); (focus exact rfl); focus (intro _; (refine zCatb [108] ia (by simp; omega) ?_); exact det_refl)
        refine gW ?_
        refine w_nil ?_
        repeat (first | refine gG ?_ | refine zN1 (fun hlen => ?_) | refine zN2 (fun hlen => ?_) | refine zSub ?_ | refine zAl (fun _ => ?_) | refine zAp (fun _ => ?_))
        exact ⟨(k + 1, _), ⟨hk', hA2⟩, by simp only; omega, x_wkd 1 ⟨rfl, rfl, trivial⟩ (by dsimp only; rw [hsn]; simp only [List.length_append, List.flatMap_append]; rfl) (by repeat (first | exact ag_refl | refine ag_upd rfl ?_ | refine ag_at rfl rfl ?_))⟩
  have hk' : k = l.length := by have : ¬ k < l.length := by simpa using h
                                omega
  subst hk'
  rw [List.take_length] at hA ⊢
  have hn : ∀ c ∈ l, CzN c := fun c hc => czN_of (any_false hA c hc) (hi c hc)
  rw [ctV_good hA]
  have hjl := ct_len hn
  have hjn := join_ct l
  have hj := join_af (l.map fun r => bs (itC r)) ⟨#[32]⟩ (by rw [List.length_map]; omega) (by
    have h1 := congrArg ByteArray.size hjn
    rw [bs_size'] at h1
    have h2 : (joinS (l.map fun r => bs (itC r)) ⟨#[32]⟩).size = (Lib.join ((l.map fun r => bs (itC r)).map (·.data.toList)) (⟨#[32]⟩ : ByteArray).data.toList).length := by simp [joinS, ByteArray.size]
    omega)
  rw [hjn] at hj
  clear hjn hjl h hk hn hA
  dsimp only
  generalize bs (ctL l) = res at *
  refine x_fz 4 rfl rfl rfl rfl ?_
  repeat (first | refine gG ?_ | refine zN1 (fun hlen => ?_) | refine zN2 (fun hlen => ?_) | refine zSub ?_ | refine zAl (fun _ => ?_) | refine zAp (fun _ => ?_))
  refine zCall (hj) ?_
  rintro _ rfl
  repeat (first | refine gG ?_ | refine zN1 (fun hlen => ?_) | refine zN2 (fun hlen => ?_) | refine zSub ?_ | refine zAl (fun _ => ?_) | refine zAp (fun _ => ?_))
  first | refine zR ?_ | refine zQ ?_
  rfl
def ctTo (l : List Cz) (k : Nat) : List UInt8 := ctL (l.take k)
theorem ctTo_snoc {l : List Cz} {k : Nat} {r : Cz} (h : l[k]? = some r) : ctTo l (k + 1) = ctTo l k ++ ((if 0 < k then [32] else []) ++ itC r) := by
  have h1 := map_snoc itC h
  unfold ctTo ctL
  rw [h1]
  cases k with
  | zero => rw [List.take_zero, List.map_nil]; simp [Lib.join_one, Lib.join_nil]
  | succ k =>
    have hk := (List.getElem?_eq_some_iff.1 h).1
    rw [join_snoc (by
      intro e
      have := congrArg List.length e
      rw [List.length_map, List.length_take, List.length_nil] at this
      omega), if_pos (by omega)]
set_option maxRecDepth 100000 in
set_option maxHeartbeats 8000000 in
theorem refCText_af (l : List Cz) (hl : l.length ≤ 1048577) (hi : ∀ c ∈ l, CzI c) : AF Tryd.prog 20 [czRow l] (· = .tup [.lit (.string (ctV l).1), .lit (.int .i64 (ctV l).2)]) := by
  refine af_enter tok Tryd.func20 Tryd.ntmps20 Tryd.results20 rfl (by kernel_rfl) rfl rfl fun F hX => ?_
  repeat (first | refine gG ?_ | refine zN1 (fun hlen => ?_) | refine zN2 (fun hlen => ?_) | refine zAl (fun _ => ?_))
  refine x_loop [2, 3, 4, 5, 6, 9, 10, 11, 12, 13, 14, 15, 16, 17, 18, 19, 20, 21, 22, 23, 24, 25, 26, 27, 28, 29, 30, 31, 32, 33, 34, 35, 36, 37, 38, 39, 40, 41, 42, 43, 44, 45, 46, 47, 48, 49, 50, 51, 52, 53, 54, 55, 56, 57, 58, 59, 60, 61, 62, 63, 64, 65, 66] (fun k : Nat => [(9, .c (.lit (.int .i64 (k : Nat)))), (4, .c (.lit (.string (bs (ctTo l k)))))]) (fun _ => []) (fun k => k ≤ l.length ∧ (l.take k).any badC = false) (fun k => l.length - k) 0 ⟨Nat.zero_le _, rfl⟩ ⟨rfl, rfl, trivial⟩ rfl ?_
  rintro k ⟨hk, hA⟩
  repeat (first | refine gG ?_ | refine zN1 (fun hlen => ?_) | refine zN2 (fun hlen => ?_) | refine zAl (fun _ => ?_))
  refine x_cond rfl (fun h => ?_) (fun h => ?_)
  · skip
    have hk' : k < l.length := by simpa using h
    obtain ⟨c, hc⟩ := nth hk'
    have hat := Cz.at hc
    cases hb : badC c with
    | true =>
      rw [ctV_bad hc hb]
      clear h hc hA hi
      obtain ⟨kd, a, b⟩ := c
      unfold badC at hb
      dsimp only at hb
      cases d1 : decide (kd < 1) with
      | true =>
        clear hb
        repeat (first | refine gG ?_ | refine zN1 (fun hlen => ?_) | refine zN2 (fun hlen => ?_) | refine zAl (fun _ => ?_))
        refine zIx (k) (hk') ?_
        repeat (first | refine gG ?_ | refine zN1 (fun hlen => ?_) | refine zN2 (fun hlen => ?_) | refine zAl (fun _ => ?_))
        refine zEl (hat) (czTs_len _) ?_
        repeat (first | refine gG ?_ | refine zN1 (fun hlen => ?_) | refine zN2 (fun hlen => ?_) | refine zAl (fun _ => ?_))
        first | refine zR ?_ | refine zQ ?_
        rfl
      | false =>
        rw [d1, Bool.false_or] at hb
        cases d2 : decide (3 < kd) with
        | true =>
          clear hb
          repeat (first | refine gG ?_ | refine zN1 (fun hlen => ?_) | refine zN2 (fun hlen => ?_) | refine zAl (fun _ => ?_))
          refine zIx (k) (hk') ?_
          repeat (first | refine gG ?_ | refine zN1 (fun hlen => ?_) | refine zN2 (fun hlen => ?_) | refine zAl (fun _ => ?_))
          refine zEl (hat) (czTs_len _) ?_
          repeat (first | refine gG ?_ | refine zN1 (fun hlen => ?_) | refine zN2 (fun hlen => ?_) | refine zAl (fun _ => ?_))
          first | refine zR ?_ | refine zQ ?_
          rfl
        | false =>
          rw [d2, Bool.false_or] at hb
          cases d3 : decide (a < 0) with
          | true =>
            clear hb
            repeat (first | refine gG ?_ | refine zN1 (fun hlen => ?_) | refine zN2 (fun hlen => ?_) | refine zAl (fun _ => ?_))
            refine zIx (k) (hk') ?_
            repeat (first | refine gG ?_ | refine zN1 (fun hlen => ?_) | refine zN2 (fun hlen => ?_) | refine zAl (fun _ => ?_))
            refine zEl (hat) (czTs_len _) ?_
            repeat (first | refine gG ?_ | refine zN1 (fun hlen => ?_) | refine zN2 (fun hlen => ?_) | refine zAl (fun _ => ?_))
            first | refine zR ?_ | refine zQ ?_
            rfl
          | false =>
            rw [d3, Bool.false_or] at hb
            cases d4 : decide (b < 0) with
            | true =>
              clear hb
              repeat (first | refine gG ?_ | refine zN1 (fun hlen => ?_) | refine zN2 (fun hlen => ?_) | refine zAl (fun _ => ?_))
              refine zIx (k) (hk') ?_
              repeat (first | refine gG ?_ | refine zN1 (fun hlen => ?_) | refine zN2 (fun hlen => ?_) | refine zAl (fun _ => ?_))
              refine zEl (hat) (czTs_len _) ?_
              repeat (first | refine gG ?_ | refine zN1 (fun hlen => ?_) | refine zN2 (fun hlen => ?_) | refine zAl (fun _ => ?_))
              first | refine zR ?_ | refine zQ ?_
              rfl
            | false =>
              rw [d4, Bool.false_or] at hb
              rw [Bool.and_eq_true] at hb
              obtain ⟨h5, h6⟩ := hb
              have d5 : decide (b = 0) = false := by simpa using h5
              have d6 : decide (kd = 2) = false := by simpa using h6
              clear h5 h6
              repeat (first | refine gG ?_ | refine zN1 (fun hlen => ?_) | refine zN2 (fun hlen => ?_) | refine zAl (fun _ => ?_))
              refine zIx (k) (hk') ?_
              repeat (first | refine gG ?_ | refine zN1 (fun hlen => ?_) | refine zN2 (fun hlen => ?_) | refine zAl (fun _ => ?_))
              refine zEl (hat) (czTs_len _) ?_
              repeat (first | refine gG ?_ | refine zN1 (fun hlen => ?_) | refine zN2 (fun hlen => ?_) | refine zAl (fun _ => ?_))
              first | refine zR ?_ | refine zQ ?_
              rfl
    | false =>
      have hN := czN_of hb (hi c (List.mem_of_getElem? hc))
      have hA2 := any_snoc hc hA hb
      have hsn := ctTo_snoc hc
      have hle : (ctTo l k).length ≤ 42991657 := by
        have h1 := ct_len (l := l.take k) fun q hq => czN_of (any_false hA q hq) (hi q (List.mem_of_mem_take hq))
        rw [List.length_take] at h1
        unfold ctTo
        omega
      have ha := itoa_af c.a hN.ia
      have hbb := itoa_af c.b hN.ib
      have la := itoa_len hN.a0 hN.a1
      have lb := itoa_len hN.b0 hN.b1
      have hit : itC c = ltrL c.kd ++ (Lib.itoa c.a ++ (if c.kd = 2 then 45 :: Lib.itoa c.b else [])) := rfl
      rw [hit] at hsn
      generalize ctTo l k = T0 at *
      generalize hT1 : ctTo l (k + 1) = T1 at *
      clear h hb hc hi hA hit
      obtain ⟨kd, a, b⟩ := c
      obtain ⟨k1, k3, a0, a1, b0, b1, bk⟩ := hN
      dsimp only at *
      have hkd : kd = 1 ∨ kd = 2 ∨ kd = 3 := by omega
      rcases hkd with rfl | rfl | rfl
      · skip
        have hb0 : b = 0 := by rcases bk with h | h; exact h; exact absurd h (by decide)
        subst hb0
        clear hbb lb bk
        rw [if_neg (show ¬ (1 : Int) = 2 by decide), List.append_nil] at hsn
        change T1 = T0 ++ ((if 0 < k then [32] else []) ++ ([103] ++ Lib.itoa a)) at hsn
        generalize Lib.itoa a = ia at *
        have d1 : decide ((1 : Int) < 1) = false := by decide
        have d2 : decide ((3 : Int) < 1) = false := by decide
        have d6 : decide ((1 : Int) = 2) = false := by decide
        have d3 : decide (a < 0) = false := decide_eq_false (by omega)
        have d4 : decide ((0 : Int) < 0) = false := by decide
        have d5 : decide ((0 : Int) = 0) = true := by decide
        cases d0 : decide ((0 : Int) < ((k : Nat) : Int)) with
        | false =>
          have k0 : ¬ 0 < k := by have := of_decide_eq_false d0; omega
          rw [if_neg k0, List.nil_append] at hsn
          subst hsn
          repeat (first | refine gG ?_ | refine zN1 (fun hlen => ?_) | refine zN2 (fun hlen => ?_) | refine zAl (fun _ => ?_))
          refine zIx (k) (hk') ?_
          repeat (first | refine gG ?_ | refine zN1 (fun hlen => ?_) | refine zN2 (fun hlen => ?_) | refine zAl (fun _ => ?_))
          refine zEl (hat) (czTs_len _) ?_
          repeat (first | refine zIxb 0 ?_ | refine zIxb 1 ?_ | refine gG ?_ | refine zN1 (fun hlen => ?_) | refine zN2 (fun hlen => ?_) | refine zAl (fun _ => ?_) | refine zBx (fun _ => ?_) | refine zAp (fun _ => ?_))
          refine ac_draw [1, 1, 1, 1, 1, 1, 1, 1, 1, 1, 1, 1] [0, 1, 2, 3, 4, 5, 6, 7, 8, 9, 10, 11] (by kernel_rfl) (by kernel_rfl) ?_
          refine gW ?_
          apply w_q; (focus exact rfl); (focus exact rfl); focus (intro _; (refine zIx (n := 4) 1 (by decide) ?_); exact det_refl)
          apply w_q; (focus exact rfl); (focus exact rfl); focus (intro _; (refine zEl1 rfl ?_); exact det_refl)
          refine gW ?_
          apply w_q; (focus exact rfl); (focus exact rfl); focus (intro _; (refine zCall ha ?_; rintro _ rfl); exact det_refl)
          apply w_q; (focus exact rfl); (focus exact rfl); focus (intro _; (refine zCatb [103] ia (by simp; omega) ?_); exact det_refl)
          apply w_q; (focus exact rfl); (focus exact rfl); focus (intro _; (refine zCatb T0 ([103] ++ ia) (by simp; omega) ?_); exact det_refl)
          refine gW ?_
          refine w_nil ?_
          repeat (first | refine zIxb 0 ?_ | refine zIxb 1 ?_ | refine gG ?_ | refine zN1 (fun hlen => ?_) | refine zN2 (fun hlen => ?_) | refine zAl (fun _ => ?_) | refine zBx (fun _ => ?_) | refine zAp (fun _ => ?_))
          exact ⟨k + 1, ⟨hk', hA2⟩, by omega, x_wkd 0 ⟨rfl, by rw [hT1]; simp only [List.append_assoc]; rfl, trivial⟩ rfl (by repeat (first | exact ag_refl | refine ag_upd rfl ?_ | refine ag_at rfl rfl ?_))⟩
        | true =>
          have k0 : 0 < k := by have := of_decide_eq_true d0; omega
          rw [if_pos k0] at hsn
          subst hsn
          repeat (first | refine gG ?_ | refine zN1 (fun hlen => ?_) | refine zN2 (fun hlen => ?_) | refine zAl (fun _ => ?_))
          refine zIx (k) (hk') ?_
          repeat (first | refine gG ?_ | refine zN1 (fun hlen => ?_) | refine zN2 (fun hlen => ?_) | refine zAl (fun _ => ?_))
          refine zEl (hat) (czTs_len _) ?_
          repeat (first | refine zIxb 0 ?_ | refine zIxb 1 ?_ | refine gG ?_ | refine zN1 (fun hlen => ?_) | refine zN2 (fun hlen => ?_) | refine zAl (fun _ => ?_) | refine zBx (fun _ => ?_) | refine zAp (fun _ => ?_))
          refine zCatb T0 [32] (by simp; omega) ?_
          repeat (first | refine zIxb 0 ?_ | refine zIxb 1 ?_ | refine gG ?_ | refine zN1 (fun hlen => ?_) | refine zN2 (fun hlen => ?_) | refine zAl (fun _ => ?_) | refine zBx (fun _ => ?_) | refine zAp (fun _ => ?_))
          refine ac_draw [1, 1, 1, 1, 1, 1, 1, 1, 1, 1, 1, 1] [0, 1, 2, 3, 4, 5, 6, 7, 8, 9, 10, 11] (by kernel_rfl) (by kernel_rfl) ?_
          refine gW ?_
          apply w_q; (focus exact rfl); (focus exact rfl); focus (intro _; (refine zIx (n := 4) 1 (by decide) ?_); exact det_refl)
          apply w_q; (focus exact rfl); (focus exact rfl); focus (intro _; (refine zEl1 rfl ?_); exact det_refl)
          refine gW ?_
          apply w_q; (focus exact rfl); (focus exact rfl); focus (intro _; (refine zCall ha ?_; rintro _ rfl); exact det_refl)
          apply w_q; (focus exact rfl); (focus exact rfl); focus (intro _; (refine zCatb [103] ia (by simp; omega) ?_); exact det_refl)
          apply w_q; (focus exact rfl); (focus exact rfl); focus (intro _; (refine zCatb (T0 ++ [32]) ([103] ++ ia) (by simp; omega) ?_); exact det_refl)
          refine gW ?_
          refine w_nil ?_
          repeat (first | refine zIxb 0 ?_ | refine zIxb 1 ?_ | refine gG ?_ | refine zN1 (fun hlen => ?_) | refine zN2 (fun hlen => ?_) | refine zAl (fun _ => ?_) | refine zBx (fun _ => ?_) | refine zAp (fun _ => ?_))
          exact ⟨k + 1, ⟨hk', hA2⟩, by omega, x_wkd 0 ⟨rfl, by rw [hT1]; simp only [List.append_assoc]; rfl, trivial⟩ rfl (by repeat (first | exact ag_refl | refine ag_upd rfl ?_ | refine ag_at rfl rfl ?_))⟩
      · skip
        clear bk
        rw [if_pos (show (2 : Int) = 2 from rfl)] at hsn
        change T1 = T0 ++ ((if 0 < k then [32] else []) ++ ([99] ++ (Lib.itoa a ++ ([45] ++ Lib.itoa b)))) at hsn
        generalize Lib.itoa a = ia at *
        generalize Lib.itoa b = ib at *
        have d1 : decide ((2 : Int) < 1) = false := by decide
        have d2 : decide ((3 : Int) < 2) = false := by decide
        have d6 : decide ((2 : Int) = 2) = true := by decide
        have d3 : decide (a < 0) = false := decide_eq_false (by omega)
        have d4 : decide (b < 0) = false := decide_eq_false (by omega)
        cases d0 : decide ((0 : Int) < ((k : Nat) : Int)) with
        | false =>
          have k0 : ¬ 0 < k := by have := of_decide_eq_false d0; omega
          rw [if_neg k0, List.nil_append] at hsn
          subst hsn
          cases d5 : decide (b = 0) with
          | true =>
            repeat (first | refine gG ?_ | refine zN1 (fun hlen => ?_) | refine zN2 (fun hlen => ?_) | refine zAl (fun _ => ?_))
            refine zIx (k) (hk') ?_
            repeat (first | refine gG ?_ | refine zN1 (fun hlen => ?_) | refine zN2 (fun hlen => ?_) | refine zAl (fun _ => ?_))
            refine zEl (hat) (czTs_len _) ?_
            repeat (first | refine zIxb 0 ?_ | refine zIxb 1 ?_ | refine gG ?_ | refine zN1 (fun hlen => ?_) | refine zN2 (fun hlen => ?_) | refine zAl (fun _ => ?_) | refine zBx (fun _ => ?_) | refine zAp (fun _ => ?_))
            refine ac_draw [1, 1, 1, 1, 1, 1, 1, 1, 1, 1, 1, 1] [0, 1, 2, 3, 4, 5, 6, 7, 8, 9, 10, 11] (by kernel_rfl) (by kernel_rfl) ?_
            refine gW ?_
            apply w_q; (focus exact rfl); (focus exact rfl); focus (intro _; (refine zIx (n := 4) 2 (by decide) ?_); exact det_refl)
            apply w_q; (focus exact rfl); (focus exact rfl); focus (intro _; (refine zEl1 rfl ?_); exact det_refl)
            refine gW ?_
            apply w_q; (focus exact rfl); (focus exact rfl); focus (intro _; (refine zCall ha ?_; rintro _ rfl); exact det_refl)
            apply w_q; (focus exact rfl); (focus exact rfl); focus (intro _; (refine zCatb [99] ia (by simp; omega) ?_); exact det_refl)
            apply w_q; (focus exact rfl); (focus exact rfl); focus (intro _; (refine zCatb T0 ([99] ++ ia) (by simp; omega) ?_); exact det_refl)
            refine gW ?_
            refine w_nil ?_
            repeat (first | refine zIxb 0 ?_ | refine zIxb 1 ?_ | refine gG ?_ | refine zN1 (fun hlen => ?_) | refine zN2 (fun hlen => ?_) | refine zAl (fun _ => ?_) | refine zBx (fun _ => ?_) | refine zAp (fun _ => ?_))
            refine zCall (hbb) ?_
            rintro _ rfl
            repeat (first | refine zIxb 0 ?_ | refine zIxb 1 ?_ | refine gG ?_ | refine zN1 (fun hlen => ?_) | refine zN2 (fun hlen => ?_) | refine zAl (fun _ => ?_) | refine zBx (fun _ => ?_) | refine zAp (fun _ => ?_))
            refine zCatb [45] ib (by simp; omega) ?_
            repeat (first | refine zIxb 0 ?_ | refine zIxb 1 ?_ | refine gG ?_ | refine zN1 (fun hlen => ?_) | refine zN2 (fun hlen => ?_) | refine zAl (fun _ => ?_) | refine zBx (fun _ => ?_) | refine zAp (fun _ => ?_))
            refine zCatb (T0 ++ ([99] ++ ia)) ([45] ++ ib) (by simp; omega) ?_
            repeat (first | refine zIxb 0 ?_ | refine zIxb 1 ?_ | refine gG ?_ | refine zN1 (fun hlen => ?_) | refine zN2 (fun hlen => ?_) | refine zAl (fun _ => ?_) | refine zBx (fun _ => ?_) | refine zAp (fun _ => ?_))
            exact ⟨k + 1, ⟨hk', hA2⟩, by omega, x_wkd 0 ⟨rfl, by rw [hT1]; simp only [List.append_assoc]; rfl, trivial⟩ rfl (by repeat (first | exact ag_refl | refine ag_upd rfl ?_ | refine ag_at rfl rfl ?_))⟩
          | false =>
            repeat (first | refine gG ?_ | refine zN1 (fun hlen => ?_) | refine zN2 (fun hlen => ?_) | refine zAl (fun _ => ?_))
            refine zIx (k) (hk') ?_
            repeat (first | refine gG ?_ | refine zN1 (fun hlen => ?_) | refine zN2 (fun hlen => ?_) | refine zAl (fun _ => ?_))
            refine zEl (hat) (czTs_len _) ?_
            repeat (first | refine zIxb 0 ?_ | refine zIxb 1 ?_ | refine gG ?_ | refine zN1 (fun hlen => ?_) | refine zN2 (fun hlen => ?_) | refine zAl (fun _ => ?_) | refine zBx (fun _ => ?_) | refine zAp (fun _ => ?_))
            refine ac_draw [1, 1, 1, 1, 1, 1, 1, 1, 1, 1, 1, 1] [0, 1, 2, 3, 4, 5, 6, 7, 8, 9, 10, 11] (by kernel_rfl) (by kernel_rfl) ?_
            refine gW ?_
            apply w_q; (focus exact rfl); (focus exact rfl); focus (intro _; (refine zIx (n := 4) 2 (by decide) ?_); exact det_refl)
            apply w_q; (focus exact rfl); (focus exact rfl); focus (intro _; (refine zEl1 rfl ?_); exact det_refl)
            refine gW ?_
            apply w_q; (focus exact rfl); (focus exact rfl); focus (intro _; (refine zCall ha ?_; rintro _ rfl); exact det_refl)
            apply w_q; (focus exact rfl); (focus exact rfl); focus (intro _; (refine zCatb [99] ia (by simp; omega) ?_); exact det_refl)
            apply w_q; (focus exact rfl); (focus exact rfl); focus (intro _; (refine zCatb T0 ([99] ++ ia) (by simp; omega) ?_); exact det_refl)
            refine gW ?_
            refine w_nil ?_
            repeat (first | refine zIxb 0 ?_ | refine zIxb 1 ?_ | refine gG ?_ | refine zN1 (fun hlen => ?_) | refine zN2 (fun hlen => ?_) | refine zAl (fun _ => ?_) | refine zBx (fun _ => ?_) | refine zAp (fun _ => ?_))
            refine zCall (hbb) ?_
            rintro _ rfl
            repeat (first | refine zIxb 0 ?_ | refine zIxb 1 ?_ | refine gG ?_ | refine zN1 (fun hlen => ?_) | refine zN2 (fun hlen => ?_) | refine zAl (fun _ => ?_) | refine zBx (fun _ => ?_) | refine zAp (fun _ => ?_))
            refine zCatb [45] ib (by simp; omega) ?_
            repeat (first | refine zIxb 0 ?_ | refine zIxb 1 ?_ | refine gG ?_ | refine zN1 (fun hlen => ?_) | refine zN2 (fun hlen => ?_) | refine zAl (fun _ => ?_) | refine zBx (fun _ => ?_) | refine zAp (fun _ => ?_))
            refine zCatb (T0 ++ ([99] ++ ia)) ([45] ++ ib) (by simp; omega) ?_
            repeat (first | refine zIxb 0 ?_ | refine zIxb 1 ?_ | refine gG ?_ | refine zN1 (fun hlen => ?_) | refine zN2 (fun hlen => ?_) | refine zAl (fun _ => ?_) | refine zBx (fun _ => ?_) | refine zAp (fun _ => ?_))
            exact ⟨k + 1, ⟨hk', hA2⟩, by omega, x_wkd 0 ⟨rfl, by rw [hT1]; simp only [List.append_assoc]; rfl, trivial⟩ rfl (by repeat (first | exact ag_refl | refine ag_upd rfl ?_ | refine ag_at rfl rfl ?_))⟩
        | true =>
          have k0 : 0 < k := by have := of_decide_eq_true d0; omega
          rw [if_pos k0] at hsn
          subst hsn
          cases d5 : decide (b = 0) with
          | true =>
            repeat (first | refine gG ?_ | refine zN1 (fun hlen => ?_) | refine zN2 (fun hlen => ?_) | refine zAl (fun _ => ?_))
            refine zIx (k) (hk') ?_
            repeat (first | refine gG ?_ | refine zN1 (fun hlen => ?_) | refine zN2 (fun hlen => ?_) | refine zAl (fun _ => ?_))
            refine zEl (hat) (czTs_len _) ?_
            repeat (first | refine zIxb 0 ?_ | refine zIxb 1 ?_ | refine gG ?_ | refine zN1 (fun hlen => ?_) | refine zN2 (fun hlen => ?_) | refine zAl (fun _ => ?_) | refine zBx (fun _ => ?_) | refine zAp (fun _ => ?_))
            refine zCatb T0 [32] (by simp; omega) ?_
            repeat (first | refine zIxb 0 ?_ | refine zIxb 1 ?_ | refine gG ?_ | refine zN1 (fun hlen => ?_) | refine zN2 (fun hlen => ?_) | refine zAl (fun _ => ?_) | refine zBx (fun _ => ?_) | refine zAp (fun _ => ?_))
            refine ac_draw [1, 1, 1, 1, 1, 1, 1, 1, 1, 1, 1, 1] [0, 1, 2, 3, 4, 5, 6, 7, 8, 9, 10, 11] (by kernel_rfl) (by kernel_rfl) ?_
            refine gW ?_
            apply w_q; (focus exact rfl); (focus exact rfl); focus (intro _; (refine zIx (n := 4) 2 (by decide) ?_); exact det_refl)
            apply w_q; (focus exact rfl); (focus exact rfl); focus (intro _; (refine zEl1 rfl ?_); exact det_refl)
            refine gW ?_
            apply w_q; (focus exact rfl); (focus exact rfl); focus (intro _; (refine zCall ha ?_; rintro _ rfl); exact det_refl)
            apply w_q; (focus exact rfl); (focus exact rfl); focus (intro _; (refine zCatb [99] ia (by simp; omega) ?_); exact det_refl)
            apply w_q; (focus exact rfl); (focus exact rfl); focus (intro _; (refine zCatb (T0 ++ [32]) ([99] ++ ia) (by simp; omega) ?_); exact det_refl)
            refine gW ?_
            refine w_nil ?_
            repeat (first | refine zIxb 0 ?_ | refine zIxb 1 ?_ | refine gG ?_ | refine zN1 (fun hlen => ?_) | refine zN2 (fun hlen => ?_) | refine zAl (fun _ => ?_) | refine zBx (fun _ => ?_) | refine zAp (fun _ => ?_))
            refine zCall (hbb) ?_
            rintro _ rfl
            repeat (first | refine zIxb 0 ?_ | refine zIxb 1 ?_ | refine gG ?_ | refine zN1 (fun hlen => ?_) | refine zN2 (fun hlen => ?_) | refine zAl (fun _ => ?_) | refine zBx (fun _ => ?_) | refine zAp (fun _ => ?_))
            refine zCatb [45] ib (by simp; omega) ?_
            repeat (first | refine zIxb 0 ?_ | refine zIxb 1 ?_ | refine gG ?_ | refine zN1 (fun hlen => ?_) | refine zN2 (fun hlen => ?_) | refine zAl (fun _ => ?_) | refine zBx (fun _ => ?_) | refine zAp (fun _ => ?_))
            refine zCatb ((T0 ++ [32]) ++ ([99] ++ ia)) ([45] ++ ib) (by simp; omega) ?_
            repeat (first | refine zIxb 0 ?_ | refine zIxb 1 ?_ | refine gG ?_ | refine zN1 (fun hlen => ?_) | refine zN2 (fun hlen => ?_) | refine zAl (fun _ => ?_) | refine zBx (fun _ => ?_) | refine zAp (fun _ => ?_))
            exact ⟨k + 1, ⟨hk', hA2⟩, by omega, x_wkd 0 ⟨rfl, by rw [hT1]; simp only [List.append_assoc]; rfl, trivial⟩ rfl (by repeat (first | exact ag_refl | refine ag_upd rfl ?_ | refine ag_at rfl rfl ?_))⟩
          | false =>
            repeat (first | refine gG ?_ | refine zN1 (fun hlen => ?_) | refine zN2 (fun hlen => ?_) | refine zAl (fun _ => ?_))
            refine zIx (k) (hk') ?_
            repeat (first | refine gG ?_ | refine zN1 (fun hlen => ?_) | refine zN2 (fun hlen => ?_) | refine zAl (fun _ => ?_))
            refine zEl (hat) (czTs_len _) ?_
            repeat (first | refine zIxb 0 ?_ | refine zIxb 1 ?_ | refine gG ?_ | refine zN1 (fun hlen => ?_) | refine zN2 (fun hlen => ?_) | refine zAl (fun _ => ?_) | refine zBx (fun _ => ?_) | refine zAp (fun _ => ?_))
            refine zCatb T0 [32] (by simp; omega) ?_
            repeat (first | refine zIxb 0 ?_ | refine zIxb 1 ?_ | refine gG ?_ | refine zN1 (fun hlen => ?_) | refine zN2 (fun hlen => ?_) | refine zAl (fun _ => ?_) | refine zBx (fun _ => ?_) | refine zAp (fun _ => ?_))
            refine ac_draw [1, 1, 1, 1, 1, 1, 1, 1, 1, 1, 1, 1] [0, 1, 2, 3, 4, 5, 6, 7, 8, 9, 10, 11] (by kernel_rfl) (by kernel_rfl) ?_
            refine gW ?_
            apply w_q; (focus exact rfl); (focus exact rfl); focus (intro _; (refine zIx (n := 4) 2 (by decide) ?_); exact det_refl)
            apply w_q; (focus exact rfl); (focus exact rfl); focus (intro _; (refine zEl1 rfl ?_); exact det_refl)
            refine gW ?_
            apply w_q; (focus exact rfl); (focus exact rfl); focus (intro _; (refine zCall ha ?_; rintro _ rfl); exact det_refl)
            apply w_q; (focus exact rfl); (focus exact rfl); focus (intro _; (refine zCatb [99] ia (by simp; omega) ?_); exact det_refl)
            apply w_q; (focus exact rfl); (focus exact rfl); focus (intro _; (refine zCatb (T0 ++ [32]) ([99] ++ ia) (by simp; omega) ?_); exact det_refl)
            refine gW ?_
            refine w_nil ?_
            repeat (first | refine zIxb 0 ?_ | refine zIxb 1 ?_ | refine gG ?_ | refine zN1 (fun hlen => ?_) | refine zN2 (fun hlen => ?_) | refine zAl (fun _ => ?_) | refine zBx (fun _ => ?_) | refine zAp (fun _ => ?_))
            refine zCall (hbb) ?_
            rintro _ rfl
            repeat (first | refine zIxb 0 ?_ | refine zIxb 1 ?_ | refine gG ?_ | refine zN1 (fun hlen => ?_) | refine zN2 (fun hlen => ?_) | refine zAl (fun _ => ?_) | refine zBx (fun _ => ?_) | refine zAp (fun _ => ?_))
            refine zCatb [45] ib (by simp; omega) ?_
            repeat (first | refine zIxb 0 ?_ | refine zIxb 1 ?_ | refine gG ?_ | refine zN1 (fun hlen => ?_) | refine zN2 (fun hlen => ?_) | refine zAl (fun _ => ?_) | refine zBx (fun _ => ?_) | refine zAp (fun _ => ?_))
            refine zCatb ((T0 ++ [32]) ++ ([99] ++ ia)) ([45] ++ ib) (by simp; omega) ?_
            repeat (first | refine zIxb 0 ?_ | refine zIxb 1 ?_ | refine gG ?_ | refine zN1 (fun hlen => ?_) | refine zN2 (fun hlen => ?_) | refine zAl (fun _ => ?_) | refine zBx (fun _ => ?_) | refine zAp (fun _ => ?_))
            exact ⟨k + 1, ⟨hk', hA2⟩, by omega, x_wkd 0 ⟨rfl, by rw [hT1]; simp only [List.append_assoc]; rfl, trivial⟩ rfl (by repeat (first | exact ag_refl | refine ag_upd rfl ?_ | refine ag_at rfl rfl ?_))⟩
      · skip
        have hb0 : b = 0 := by rcases bk with h | h; exact h; exact absurd h (by decide)
        subst hb0
        clear hbb lb bk
        rw [if_neg (show ¬ (3 : Int) = 2 by decide), List.append_nil] at hsn
        change T1 = T0 ++ ((if 0 < k then [32] else []) ++ ([108] ++ Lib.itoa a)) at hsn
        generalize Lib.itoa a = ia at *
        have d1 : decide ((3 : Int) < 1) = false := by decide
        have d2 : decide ((3 : Int) < 3) = false := by decide
        have d6 : decide ((3 : Int) = 2) = false := by decide
        have d3 : decide (a < 0) = false := decide_eq_false (by omega)
        have d4 : decide ((0 : Int) < 0) = false := by decide
        have d5 : decide ((0 : Int) = 0) = true := by decide
        cases d0 : decide ((0 : Int) < ((k : Nat) : Int)) with
        | false =>
          have k0 : ¬ 0 < k := by have := of_decide_eq_false d0; omega
          rw [if_neg k0, List.nil_append] at hsn
          subst hsn
          repeat (first | refine gG ?_ | refine zN1 (fun hlen => ?_) | refine zN2 (fun hlen => ?_) | refine zAl (fun _ => ?_))
          refine zIx (k) (hk') ?_
          repeat (first | refine gG ?_ | refine zN1 (fun hlen => ?_) | refine zN2 (fun hlen => ?_) | refine zAl (fun _ => ?_))
          refine zEl (hat) (czTs_len _) ?_
          repeat (first | refine zIxb 0 ?_ | refine zIxb 1 ?_ | refine gG ?_ | refine zN1 (fun hlen => ?_) | refine zN2 (fun hlen => ?_) | refine zAl (fun _ => ?_) | refine zBx (fun _ => ?_) | refine zAp (fun _ => ?_))
          refine ac_draw [1, 1, 1, 1, 1, 1, 1, 1, 1, 1, 1, 1] [0, 1, 2, 3, 4, 5, 6, 7, 8, 9, 10, 11] (by kernel_rfl) (by kernel_rfl) ?_
          refine gW ?_
          apply w_q; (focus exact rfl); (focus exact rfl); focus (intro _; (refine zIx (n := 4) 3 (by decide) ?_); exact det_refl)
          apply w_q; (focus exact rfl); (focus exact rfl); focus (intro _; (refine zEl1 rfl ?_); exact det_refl)
          refine gW ?_
          apply w_q; (focus exact rfl); (focus exact rfl); focus (intro _; (refine zCall ha ?_; rintro _ rfl); exact det_refl)
          apply w_q; (focus exact rfl); (focus exact rfl); focus (intro _; (refine zCatb [108] ia (by simp; omega) ?_); exact det_refl)
          apply w_q; (focus exact rfl); (focus exact rfl); focus (intro _; (refine zCatb T0 ([108] ++ ia) (by simp; omega) ?_); exact det_refl)
          refine gW ?_
          refine w_nil ?_
          repeat (first | refine zIxb 0 ?_ | refine zIxb 1 ?_ | refine gG ?_ | refine zN1 (fun hlen => ?_) | refine zN2 (fun hlen => ?_) | refine zAl (fun _ => ?_) | refine zBx (fun _ => ?_) | refine zAp (fun _ => ?_))
          exact ⟨k + 1, ⟨hk', hA2⟩, by omega, x_wkd 0 ⟨rfl, by rw [hT1]; simp only [List.append_assoc]; rfl, trivial⟩ rfl (by repeat (first | exact ag_refl | refine ag_upd rfl ?_ | refine ag_at rfl rfl ?_))⟩
        | true =>
          have k0 : 0 < k := by have := of_decide_eq_true d0; omega
          rw [if_pos k0] at hsn
          subst hsn
          repeat (first | refine gG ?_ | refine zN1 (fun hlen => ?_) | refine zN2 (fun hlen => ?_) | refine zAl (fun _ => ?_))
          refine zIx (k) (hk') ?_
          repeat (first | refine gG ?_ | refine zN1 (fun hlen => ?_) | refine zN2 (fun hlen => ?_) | refine zAl (fun _ => ?_))
          refine zEl (hat) (czTs_len _) ?_
          repeat (first | refine zIxb 0 ?_ | refine zIxb 1 ?_ | refine gG ?_ | refine zN1 (fun hlen => ?_) | refine zN2 (fun hlen => ?_) | refine zAl (fun _ => ?_) | refine zBx (fun _ => ?_) | refine zAp (fun _ => ?_))
          refine zCatb T0 [32] (by simp; omega) ?_
          repeat (first | refine zIxb 0 ?_ | refine zIxb 1 ?_ | refine gG ?_ | refine zN1 (fun hlen => ?_) | refine zN2 (fun hlen => ?_) | refine zAl (fun _ => ?_) | refine zBx (fun _ => ?_) | refine zAp (fun _ => ?_))
          refine ac_draw [1, 1, 1, 1, 1, 1, 1, 1, 1, 1, 1, 1] [0, 1, 2, 3, 4, 5, 6, 7, 8, 9, 10, 11] (by kernel_rfl) (by kernel_rfl) ?_
          refine gW ?_
          apply w_q; (focus exact rfl); (focus exact rfl); focus (intro _; (refine zIx (n := 4) 3 (by decide) ?_); exact det_refl)
          apply w_q; (focus exact rfl); (focus exact rfl); focus (intro _; (refine zEl1 rfl ?_); exact det_refl)
          refine gW ?_
          apply w_q; (focus exact rfl); (focus exact rfl); focus (intro _; (refine zCall ha ?_; rintro _ rfl); exact det_refl)
          apply w_q; (focus exact rfl); (focus exact rfl); focus (intro _; (refine zCatb [108] ia (by simp; omega) ?_); exact det_refl)
          apply w_q; (focus exact rfl); (focus exact rfl); focus (intro _; (refine zCatb (T0 ++ [32]) ([108] ++ ia) (by simp; omega) ?_); exact det_refl)
          refine gW ?_
          refine w_nil ?_
          repeat (first | refine zIxb 0 ?_ | refine zIxb 1 ?_ | refine gG ?_ | refine zN1 (fun hlen => ?_) | refine zN2 (fun hlen => ?_) | refine zAl (fun _ => ?_) | refine zBx (fun _ => ?_) | refine zAp (fun _ => ?_))
          exact ⟨k + 1, ⟨hk', hA2⟩, by omega, x_wkd 0 ⟨rfl, by rw [hT1]; simp only [List.append_assoc]; rfl, trivial⟩ rfl (by repeat (first | exact ag_refl | refine ag_upd rfl ?_ | refine ag_at rfl rfl ?_))⟩
  have hk' : k = l.length := by have : ¬ k < l.length := by simpa using h
                                omega
  subst hk'
  rw [List.take_length] at hA
  rw [ctV_good hA]
  clear h hk hA hi
  have hvt : ctTo l l.length = ctL l := by unfold ctTo; rw [List.take_length]
  rw [hvt]
  dsimp only
  repeat (first | refine gG ?_ | refine zN1 (fun hlen => ?_) | refine zN2 (fun hlen => ?_) | refine zAl (fun _ => ?_))
  first | refine zR ?_ | refine zQ ?_
  rfl
end Go.Proofs.YtadlmkgeplnemaaDoor
namespace Go.Proofs.YtadlmkgeplnemaaDoor
open Go.RowKit
theorem str_at1 {l : List ByteArray} {k : Nat} {s : ByteArray} (h : l[k]? = some s) : (l.flatMap strTs)[k * 1]? = some (.lit (.string s)) := by rw [Nat.mul_one]; exact str_at h
theorem bs_data' (l : List UInt8) : (bs l).data.toList = l := by simp [bs]
theorem atoiO_eq (s : ByteArray) : atoiO s = atoiL s.data.toList := rfl
theorem optAll_map {α β γ : Type} (f : β → Option γ) (g : α → β) : ∀ l : List α, optAll f (l.map g) = optAll (fun a => f (g a)) l
  | [] => rfl
  | a :: l => by rw [List.map_cons, optAll, optAll, optAll_map f g l]
theorem split_le (sep : List UInt8) (save : Nat) : ∀ (k : Nat) (s x : List UInt8), x ∈ Lib.splitK sep save k s → x.length ≤ s.length
  | 0, s, x, h => by rw [Lib.splitK, List.mem_singleton] at h; rw [h]; exact Nat.le_refl _
  | k + 1, s, x, h => by
    rw [Lib.splitK] at h
    split at h
    · rw [List.mem_singleton] at h; rw [h]; exact Nat.le_refl _
    · rcases List.mem_cons.1 h with h | h
      · rw [h, List.length_take]; omega
      · have := split_le sep save k _ x h
        rw [List.length_drop] at this
        omega
theorem size_data (s : ByteArray) : s.size = s.data.toList.length := by cases s; simp [ByteArray.size]
theorem splS_size {s sep x : ByteArray} (h : x ∈ splS s sep) : x.size ≤ s.size := by
  have h1 : x.data.toList ∈ Lib.split s.data.toList sep.data.toList := by rw [← splS_data]; exact List.mem_map_of_mem h
  rw [size_data, size_data]
  exact split_le _ _ _ _ _ h1
theorem cutB_size (s sep : ByteArray) : (cutB s sep).1.size ≤ s.size ∧ (cutB s sep).2.1.size ≤ s.size := by
  unfold cutB
  dsimp only
  rw [bs_size', bs_size', size_data]
  unfold Lib.cut
  split
  · simp only [List.length_take, List.length_drop]
    omega
  · simp
theorem both2_none1 {a b : Option Int} (h : a = none) : both2 a b = none := by rw [h]; rfl
theorem both2_none2 {a b : Option Int} (h : b = none) : both2 a b = none := by rw [h]; cases a <;> rfl
end Go.Proofs.YtadlmkgeplnemaaDoor
