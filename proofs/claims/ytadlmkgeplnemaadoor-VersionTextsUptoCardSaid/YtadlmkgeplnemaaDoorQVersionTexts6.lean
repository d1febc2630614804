/-
  Texts of this proof, part 6: Lbf Vad Vae Vaf Lkc.
-/
import Derived.Test.YtadlmkgeplnemaaDoorQVersionTexts5
import Derived.ChangeKeysEq
import Derived.Laws.IdiomRangeMap
import Derived.Laws.Strings2
import Derived.Laws.StructEq
import Derived.Lib.AppendStr
import Derived.Lib.AppendZerosOnto
import Derived.Lib.MinMax
import Derived.MapKept
import Derived.WideLaws
namespace Go.Proofs.YtadlmkgeplnemaaDoor
open Go.RowKit
theorem gPow : Tryd.prog.globalNamed "internal/strconv.uint64pow10" = some 3 := by kernel_rfl
theorem glob_max {w : World} (h : Glob w) : ∃ m, w.cell? ⟨0, 0, none⟩ = some (.int .i64 m) := by
  obtain ⟨cs, t, fr, ⟨m, rfl⟩, e⟩ := h (0, fun cs => ∃ m, cs = #[.int .i64 m]) (by simp [globTab])
  exact ⟨m, by simp [World.cell?, e]⟩
theorem glob_syn {w : World} (h : Glob w) : ∃ ev, w.cell? ⟨1, 0, none⟩ = some ev ∧ (ev = .nilIface ∨ ∃ te pe, ev = .iface te pe) := by
  obtain ⟨cs, t, fr, ⟨ev, rfl, h1⟩, e⟩ := h (1, errC) (by simp [globTab])
  exact ⟨ev, by simp [World.cell?, e], h1⟩
theorem glob_rng {w : World} (h : Glob w) : ∃ ev, w.cell? ⟨2, 0, none⟩ = some ev ∧ (ev = .nilIface ∨ ∃ te pe, ev = .iface te pe) := by
  obtain ⟨cs, t, fr, ⟨ev, rfl, h1⟩, e⟩ := h (2, errC) (by simp [globTab])
  exact ⟨ev, by simp [World.cell?, e], h1⟩
theorem itoa_af (n : Int) (h : inI n) : AF Tryd.prog 24 [.lit (.int .i64 n)] (· = .lit (.string (bs (Lib.itoa n)))) := by
  refine ⟨⟨_, Tryd.func24, by kernel_rfl, by kernel_rfl⟩, fun M w vs hG hM hvs => ?_⟩
  simp only [RTs, RT] at hvs
  obtain ⟨x, r, rfl, rfl, rfl⟩ := hvs
  obtain ⟨cs, t, fr, rfl, e⟩ := hG (3, (· = (Lib.pow10Tab.map fun z => Value.int .u64 z).toArray)) (by simp [globTab])
  have htab : Lib.TabIs Tryd.prog w "internal/strconv.uint64pow10" .u64 Lib.pow10Tab := by
    unfold Lib.TabIs World.var?
    rw [gPow]
    simp only [Option.bind_some]
    rw [e]
  refine (lib_strconv_Itoa n h.1 h.2 w htab).mono fun e w' ⟨he, k, os, hw⟩ => ?_
  subst he
  have hb : Below w.heap.size w w' := by
    subst hw
    refine ⟨rfl, rfl, rfl, ?_, fun b hb => ?_⟩
    · show w.heap.size ≤ (w.heap ++ os).size
      simp
    · show (w.heap ++ os)[b]? = w.heap[b]?
      rw [Array.getElem?_append_left hb]
  exact ⟨_, _, M, rfl, rfl, Ext.refl _ _, hM.below hb, by simp only [RT]; rfl, hb⟩
def atoiO (s : ByteArray) : Option Int := match Lib.atoiAll s.data.toList with | .ok v => some v | _ => none
theorem atoi_af {s : ByteArray} {v : Int} (h : atoiO s = some v) (hs : s.size ≤ 1048576) : AF Tryd.prog 28 [.lit (.string s)] (· = .tup [.lit (.int .i64 v), .lit .nilIface]) := by
  refine ⟨⟨_, Tryd.func28, by kernel_rfl, by kernel_rfl⟩, fun M w vs hG hM hvs => ?_⟩
  simp only [RTs, RT] at hvs
  obtain ⟨x, r, rfl, rfl, rfl⟩ := hvs
  have h1 : Lib.atoiAll s.data.toList = .ok v := by
    unfold atoiO at h
    split at h
    · rename_i u hu; rw [hu]; cases h; rfl
    · cases h
  refine (lib_strconv_Atoi_ok s (by omega) v h1 w).mono fun e w' ⟨he, hw⟩ => ?_
  subst he
  have hb : Below w.heap.size w w' := by
    rcases hw with rfl | ⟨t, rfl⟩
    · exact Below.refl _ _
    · exact Lib.bytesWorld_below _ _ _
  exact ⟨_, _, M, rfl, rfl, Ext.refl _ _, hM.below hb, by simp only [RT, RTs]; exact ⟨[_, _], rfl, _, _, rfl, rfl, _, _, rfl, rfl, rfl⟩, hb⟩
theorem atoi_bad {s : ByteArray} (h : atoiO s = none) (hs : s.size ≤ 1048576) : AF Tryd.prog 28 [.lit (.string s)] (fun r => ∃ x te pe, r = .tup [.lit (.int .i64 x), .lit (.iface te pe)]) := by
  refine ⟨⟨_, Tryd.func28, by kernel_rfl, by kernel_rfl⟩, fun M w vs hG hM hvs => ?_⟩
  simp only [RTs, RT] at hvs
  obtain ⟨x, r, rfl, rfl, rfl⟩ := hvs
  cases h1 : Lib.atoiAll s.data.toList
  · unfold atoiO at h; rw [h1] at h; cases h
  · obtain ⟨ev, hv, hev⟩ := glob_syn hG
    refine (lib_strconv_Atoi_syntax s (by omega) h1 ev w hv hev).mono fun e w' ⟨N, he, _, _, hb⟩ => ?_
    subst he
    exact ⟨_, _, M, rfl, ⟨_, _, _, rfl⟩, Ext.refl _ _, hM.below hb, by simp only [RT, RTs]; exact ⟨[_, _], rfl, _, _, rfl, rfl, _, _, rfl, rfl, rfl⟩, hb⟩
  · obtain ⟨ev, hv, hev⟩ := glob_rng hG
    refine (lib_strconv_Atoi_range s (by omega) h1 ev w hv hev).mono fun e w' ⟨N, he, _, _, hb⟩ => ?_
    subst he
    exact ⟨_, _, M, rfl, ⟨_, _, _, rfl⟩, Ext.refl _ _, hM.below hb, by simp only [RT, RTs]; exact ⟨[_, _], rfl, _, _, rfl, rfl, _, _, rfl, rfl, rfl⟩, hb⟩
def cutB (s sep : ByteArray) : ByteArray × ByteArray × Bool := (bs (Lib.cut s.data.toList sep.data.toList).1, bs (Lib.cut s.data.toList sep.data.toList).2.1, (Lib.cut s.data.toList sep.data.toList).2.2)
theorem cut_af (s sep : ByteArray) (hs : s.size ≤ 1048576) : AF Tryd.prog 26 [.lit (.string s), .lit (.string sep)] (· = .tup [.lit (.string (cutB s sep).1), .lit (.string (cutB s sep).2.1), .lit (.bool (cutB s sep).2.2)]) := by
  refine ⟨⟨_, Tryd.func26, by kernel_rfl, by kernel_rfl⟩, fun M w vs hG hM hvs => ?_⟩
  simp only [RTs, RT] at hvs
  obtain ⟨x, r, rfl, rfl, y, r', rfl, rfl, rfl⟩ := hvs
  obtain ⟨m, hm⟩ := glob_max hG
  refine (lib_strings_Cut s sep m w (by omega) hm).mono fun e w' ⟨he, k, hw⟩ => ?_
  subst he
  have hb : Below w.heap.size w w' := by subst hw; exact ⟨rfl, rfl, rfl, Nat.le_refl _, fun _ _ => rfl⟩
  exact ⟨_, _, M, rfl, rfl, Ext.refl _ _, hM.below hb, by simp only [RT, RTs]; exact ⟨[_, _, _], rfl, _, _, rfl, rfl, _, _, rfl, rfl, _, _, rfl, rfl, rfl⟩, hb⟩
def splS (s sep : ByteArray) : List ByteArray := Lib.splitB sep 0 (Lib.countB s sep) s
theorem splS_len (s sep : ByteArray) (h1 : 1 ≤ sep.size) : (splS s sep).length = Lib.countB s sep + 1 := Lib.splitB_all sep h1 0 _ s rfl
theorem splS_le (s sep : ByteArray) (h1 : 1 ≤ sep.size) : (splS s sep).length ≤ s.size + 1 := by
  rw [splS_len s sep h1]
  have := Lib.countB_le sep h1 s.size s (Nat.le_refl _)
  omega
theorem splS_data (s sep : ByteArray) : (splS s sep).map (·.data.toList) = Lib.split s.data.toList sep.data.toList := Lib.splitB_data sep 0 _ s
theorem split_af (s sep : ByteArray) (hs : s.size ≤ 1048576) (h1 : 1 ≤ sep.size) : AF Tryd.prog 30 [.lit (.string s), .lit (.string sep)] (· = strRow (splS s sep)) := by
  refine ⟨⟨_, Tryd.func30, by kernel_rfl, by kernel_rfl⟩, fun M w vs hG hM hvs => ?_⟩
  simp only [RTs, RT] at hvs
  obtain ⟨x, r, rfl, rfl, y, r', rfl, rfl, rfl⟩ := hvs
  obtain ⟨m, hm⟩ := glob_max hG
  have hl := splS_len s sep h1
  have hle := splS_le s sep h1
  refine (lib_strings_Split s sep m w (by omega) hm h1).mono fun e w' ⟨he, hw⟩ => ?_
  rw [← hl] at he
  change w' = w.alloc (.cells ((splS s sep).map Value.string).toArray _) at hw
  generalize splS s sep = L at *
  subst he
  have hb : Below w.heap.size w w' := by subst hw; exact (Below.refl _ w).alloc (Nat.le_refl _) _
  have hM' : MemOk M w' := hM.below hb
  refine ⟨_, _, frz M w.heap.size w', rfl, rfl, frz_ext _ _, frz_ok hM' _, ?_, hb⟩
  rw [strRow]
  simp only [RT]
  refine ⟨_, _, L.map Value.string, rfl, Nat.le_refl _, by have : maxLen = 9223372036854775807 := rfl; omega, by omega, by simp, fun _ => ⟨_, rfl, fun j v hj => ?_⟩, strs_rts L⟩
  have hj' := hj
  rw [List.getElem?_map] at hj'
  rw [box_add, Nat.zero_add]
  have hcell : w'.cell? ⟨w.heap.size, j, none⟩ = some v := by
    subst hw
    rw [World.cell?_alloc_new, List.getElem?_toArray]
    exact hj
  have h0 : M ⟨w.heap.size, j, none⟩ = none := by
    cases hq : M ⟨w.heap.size, j, none⟩ with
    | none => rfl
    | some u =>
      have h2 := World.block_lt_of_cell? _ _ (hM _ _ hq).1
      exact absurd h2 (Nat.lt_irrefl _)
  refine frz_new h0 (Nat.le_refl _) hcell ?_
  cases hq : L[j]? with
  | none => rw [hq] at hj'; cases hj'
  | some u => rw [hq] at hj'; cases hj'; rfl
def joinS (l : List ByteArray) (sep : ByteArray) : ByteArray := ⟨(Lib.join (l.map (·.data.toList)) sep.data.toList).toArray⟩
theorem join_af (l : List ByteArray) (sep : ByteArray) (hN : l.length ≤ 140737488355328) (hlen : (Lib.join (l.map (·.data.toList)) sep.data.toList).length ≤ 140737488355328) :
    AF Tryd.prog 34 [strRow l, .lit (.string sep)] (· = .lit (.string (joinS l sep))) := by
  refine ⟨⟨_, Tryd.func34, by kernel_rfl, by kernel_rfl⟩, fun M w vs _ hM hvs => ?_⟩
  simp only [RTs, strRow, RT] at hvs
  obtain ⟨x, r, rfl, ⟨A, c, xs, rfl, hc, hm, _, hxl, hat, hxs⟩, y, r', rfl, rfl, rfl⟩ := hvs
  cases l with
  | nil =>
    refine (lib_strings_Join_none A c sep w).mono fun e w' ⟨he, hw⟩ => ?_
    subst he; subst hw
    exact ⟨_, _, M, rfl, rfl, Ext.refl _ _, hM, by simp only [RT]; rfl, Below.refl _ _⟩
  | cons s l =>
    obtain ⟨ad, rfl, hA⟩ := hat (by simp)
    have hcell : ∀ (j : Nat) (x : ByteArray), (s :: l)[j]? = some x → w.cell? (ad.add j) = some (.string x) := by
      intro j x hj
      obtain ⟨u, hu, hr⟩ := hxs.get (str_at hj)
      simp only [RT] at hr
      subst hr
      exact (hM _ _ (hA j _ hu)).1
    have h0 := hcell 0 s rfl
    have hsp : ad.spot = none := by
      unfold World.cell? at h0
      split at h0
      · split at h0
        · cases h0
        · rename_i hns
          cases hs : ad.spot with
          | none => rfl
          | some z => exact absurd (by simp [Addr.add, hs]) hns
      · cases h0
    obtain ⟨bk, o, sp⟩ := ad
    simp only at hsp
    subst hsp
    have hbk : bk < w.heap.size := by
      unfold World.cell? at h0
      split at h0
      · rename_i hb
        exact (Array.getElem?_eq_some_iff.1 hb).1
      · cases h0
    refine (lib_strings_Join bk o c (s :: l) sep w (fun j x hj => by have := hcell j x hj; rw [box_add] at this; exact this) hbk hN hc hlen).mono fun e w' ⟨he, hb⟩ => ?_
    subst he
    exact ⟨_, _, M, rfl, rfl, Ext.refl _ _, hM.below hb, by simp only [RT]; rfl, hb⟩
section
variable {P : Program} {F : Frm} {d : Option Tmp} {ty : TypeId} {pos : String} {aft : Array Edge} {g : Option (Nat × Bool)} {ρ : Operand → AV} {hp : List Blk} {K : AV → List Blk → Prop} {t t' te : TypeId} {x : Operand} {c pe : Value}
theorem zEr0 (h : K (.c (.lit (.bool false))) hp) (hu : P.underlying t = some (.interface (P.methodsAt t)) := by kernel_rfl) (hx : ρ x = .c (.lit .nilIface) := by exact rfl) (hy : ρ (.const c) = .c (.lit .nilIface) := by exact rfl) : LO P F ⟨d, .binOp .neq t x (.const c) t', ty, pos, aft, g⟩ ρ hp K := by
  refine LO.same (fun M e w he hh => ?_) h
  have h1 := he x (by first | (simp [Op.operands]; done) | simp [Op.operands, Call.operands])
  rw [hx] at h1
  have h2 := he (.const c) (by first | (simp [Op.operands]; done) | simp [Op.operands, Call.operands])
  rw [hy] at h2
  simp only [RA, RT] at h1 h2
  refine ⟨.bool false, ?_, by simp only [RA, RT]⟩
  simp [execOp, h1, h2, eqGuard_nil_constR, run_neq_nil_nil w t hu]
theorem zEr1 (h : K (.c (.lit (.bool true))) hp) (hu : P.underlying t = some (.interface (P.methodsAt t)) := by kernel_rfl) (hx : ρ x = .c (.lit (.iface te pe)) := by exact rfl) (hy : ρ (.const c) = .c (.lit .nilIface) := by exact rfl) : LO P F ⟨d, .binOp .neq t x (.const c) t', ty, pos, aft, g⟩ ρ hp K := by
  refine LO.same (fun M e w he hh => ?_) h
  have h1 := he x (by first | (simp [Op.operands]; done) | simp [Op.operands, Call.operands])
  rw [hx] at h1
  have h2 := he (.const c) (by first | (simp [Op.operands]; done) | simp [Op.operands, Call.operands])
  rw [hy] at h2
  simp only [RA, RT] at h1 h2
  refine ⟨.bool true, ?_, by simp only [RA, RT]⟩
  have hg : eqGuard .neq t x (.const c) (.iface te pe) .nilIface = pure () := by cases x <;> rfl
  simp [execOp, h1, h2, hg, run_neq_held_nil w t te pe hu]
end
end Go.Proofs.YtadlmkgeplnemaaDoor
namespace Go.Proofs.YtadlmkgeplnemaaDoor
open Go.RowKit
def rgTs (r : Rg) : List T := [.lit (.int .i64 r.1), .lit (.int .i64 r.2)]
theorem rgTs_len (r : Rg) : (rgTs r).length = 2 := rfl
def rgRow (l : List Rg) : T := .row l.length 2 (l.flatMap rgTs)
theorem Rg.at {l : List Rg} {k : Nat} {r : Rg} (h : l[k]? = some r) : ((l.flatMap rgTs).drop (k * 2)).take 2 = rgTs r := flat_at rgTs 2 rgTs_len h
theorem rgs_one (X : List Rg) (r : Rg) : (X ++ [r]).length = X.length + 1 ∧ (X ++ [r]).flatMap rgTs = X.flatMap rgTs ++ rgTs r := by simp
theorem takeR_snoc {l : List Rg} {k : Nat} {r : Rg} (h : l[k]? = some r) : l.take (k + 1) = l.take k ++ [r] := by
  obtain ⟨h1, rfl⟩ := List.getElem?_eq_some_iff.1 h
  exact List.take_succ_eq_append_getElem h1
set_option maxRecDepth 100000 in
set_option maxHeartbeats 1000000 in
theorem right_af (r : Rg) : AF Tryd.prog 46 [.agg (rgTs r)] (· = .lit (.bool (rgOk r))) := by
  obtain ⟨a, b⟩ := r
  have hr : rgOk (a, b) = (decide (1 ≤ a) && decide (b ≤ 9999) && decide (a ≤ b)) := rfl
  rw [hr]
  refine af_enter tok Tryd.func46 Tryd.ntmps46 Tryd.results46 rfl (by kernel_rfl) rfl rfl fun F hX => ?_
  cases d1 : decide (1 ≤ a)
  · repeat (first | refine gG ?_ | refine zBf ?_)
    first | refine zR ?_ | refine zQ ?_
    rfl
  · cases d2 : decide (b ≤ 9999)
    · repeat (first | refine gG ?_ | refine zBf ?_)
      first | refine zR ?_ | refine zQ ?_
      rfl
    · repeat (first | refine gG ?_ | refine zBf ?_)
      first | refine zR ?_ | refine zQ ?_
      rfl
def resT (r : List Rg × Int) : T := .tup [rgRow r.1, .lit (.int .i64 r.2)]
/-- what the check still has to look at -/
def prevOf (l : List Rg) : Nat → Int
  | 0 => -1
  | k + 1 => (l[k]?.map (·.2)).getD (-1)
theorem fault_step {l : List Rg} {k : Nat} {r : Rg} (h : l[k]? = some r) (p : Int) : faultAt p (l.drop k) = bif rgOk r then (bif decide (r.1 ≤ p + 1) && decide (0 < p) then 21 else faultAt (prevOf l (k + 1)) (l.drop (k + 1))) else 1 := by
  obtain ⟨h1, h2⟩ := List.getElem?_eq_some_iff.1 h
  rw [List.drop_eq_getElem_cons h1, faultAt, h2, prevOf, h]
  rfl
set_option maxRecDepth 100000 in
set_option maxHeartbeats 2000000 in
theorem check_af (l : List Rg) : AF Tryd.prog 33 [rgRow l] (· = .lit (.int .i64 (faultL l))) := by
  have hfl : faultL l = bif decide (50 < ((l.length : Nat) : Int)) then 2 else faultAt (-1) l := by
    unfold faultL
    by_cases h : l.length ≤ 50
    · rw [decide_eq_true h, decide_eq_false (by omega)]; rfl
    · rw [decide_eq_false h, decide_eq_true (by omega)]; rfl
  rw [hfl]
  clear hfl
  refine af_enter tok Tryd.func33 Tryd.ntmps33 Tryd.results33 rfl (by kernel_rfl) rfl rfl fun F hX => ?_
  cases d1 : decide (50 < ((l.length : Nat) : Int))
  rotate_left
  · repeat (first | refine gG ?_ | refine zN1 (fun hlen => ?_) | refine zN2 (fun hlen => ?_) | refine zAl (fun _ => ?_))
    first | refine zR ?_ | refine zQ ?_
    rfl
  · rw [cond_false]
    repeat (first | refine gG ?_ | refine zN1 (fun hlen => ?_) | refine zN2 (fun hlen => ?_) | refine zAl (fun _ => ?_))
    refine x_loop [2, 3, 4, 10, 11, 12, 13, 14, 15, 16, 17, 18, 19, 20, 21, 22, 23, 24, 25, 26, 27, 28, 29, 30, 31, 32, 33, 34] (fun k : Nat => [(10, .c (.lit (.int .i64 (k : Nat))))]) (fun _ => []) (fun k => k ≤ l.length ∧ faultAt (prevOf l k) (l.drop k) = faultAt (-1) l ∧ ∀ j r, j < k → l[j]? = some r → rgOk r = true) (fun k => l.length - k) 0 ⟨Nat.zero_le _, rfl, fun j r h => by omega⟩ ⟨rfl, trivial⟩ rfl ?_
    rintro k ⟨hk, hf, hok⟩
    repeat (first | refine gG ?_ | refine zN1 (fun hlen => ?_) | refine zN2 (fun hlen => ?_) | refine zAl (fun _ => ?_))
    refine x_cond rfl (fun h => ?_) (fun h => ?_)
    · have hk' : k < l.length := by simpa using h
      obtain ⟨r, hr⟩ := nth hk'
      have hrt := right_af r
      have hat := Rg.at hr
      have hst := fault_step hr (prevOf l k)
      rw [hf] at hst
      have hok' : rgOk r = true → ∀ j q, j < k + 1 → l[j]? = some q → rgOk q = true := fun hb j q hj hq => by
        by_cases e : j = k
        · rw [e, hr] at hq; injection hq with hq; rw [← hq]; exact hb
        · exact hok j q (by omega) hq
      clear h hf
      cases d2 : rgOk r
      · rw [d2, cond_false] at hst
        rw [d2] at hrt
        clear hok hok' d2
        obtain ⟨a, b⟩ := r
        repeat (first | refine gG ?_ | refine zN1 (fun hlen => ?_) | refine zN2 (fun hlen => ?_) | refine zAl (fun _ => ?_))
        refine zIx (k) (hk') ?_
        repeat (first | refine gG ?_ | refine zN1 (fun hlen => ?_) | refine zN2 (fun hlen => ?_) | refine zAl (fun _ => ?_))
        refine zEl (hat) (rgTs_len _) ?_
        repeat (first | refine gG ?_ | refine zN1 (fun hlen => ?_) | refine zN2 (fun hlen => ?_) | refine zAl (fun _ => ?_))
        refine zCall (hrt) ?_
        rintro _ rfl
        repeat (first | refine gG ?_ | refine zN1 (fun hlen => ?_) | refine zN2 (fun hlen => ?_) | refine zAl (fun _ => ?_))
        first | refine zR ?_ | refine zQ ?_
        rw [hst]
        rfl
      · rw [d2, cond_true] at hst
        rw [d2] at hrt
        replace hok' := hok' d2
        cases k with
        | zero =>
          replace hst : faultAt (-1) l = faultAt (prevOf l 1) (l.drop 1) := by
            rw [hst]
            simp [prevOf]
          have d3 : decide ((0 : Int) < ((0 : Nat) : Int)) = false := rfl
          clear hok d2
          obtain ⟨a, b⟩ := r
          repeat (first | refine gG ?_ | refine zN1 (fun hlen => ?_) | refine zN2 (fun hlen => ?_) | refine zAl (fun _ => ?_))
          refine zIx (0) (hk') ?_
          repeat (first | refine gG ?_ | refine zN1 (fun hlen => ?_) | refine zN2 (fun hlen => ?_) | refine zAl (fun _ => ?_))
          refine zEl (hat) (rgTs_len _) ?_
          repeat (first | refine gG ?_ | refine zN1 (fun hlen => ?_) | refine zN2 (fun hlen => ?_) | refine zAl (fun _ => ?_))
          refine zCall (hrt) ?_
          rintro _ rfl
          repeat (first | refine gG ?_ | refine zN1 (fun hlen => ?_) | refine zN2 (fun hlen => ?_) | refine zAl (fun _ => ?_))
          refine ac_draw [1, 1, 1, 1, 1, 1, 1, 1, 1, 1, 1, 1, 1, 1, 1] [0, 1, 2, 3, 4, 5, 6, 7, 8, 9, 10, 11, 12, 13, 14] (by kernel_rfl) (by kernel_rfl) ?_
          refine gW ?_
          refine w_nil ?_
          repeat (first | refine gG ?_ | refine zN1 (fun hlen => ?_) | refine zN2 (fun hlen => ?_) | refine zAl (fun _ => ?_))
          exact ⟨1, ⟨hk', hst.symm, hok'⟩, by omega, x_wkd 0 ⟨rfl, trivial⟩ rfl (by repeat (first | exact ag_refl | refine ag_upd rfl ?_ | refine ag_at rfl rfl ?_))⟩
        | succ m =>
          have hm : m < l.length := by omega
          obtain ⟨q, hq⟩ := nth hm
          have hq2 := (rgOk_iff.1 (hok m q (by omega) hq))
          have hpq : prevOf l (m + 1) = q.2 := by rw [prevOf, hq]; rfl
          have g1 : (l.flatMap rgTs)[m * 2 + 1]? = some (.lit (.int .i64 q.2)) := flat_get rgTs 2 rgTs_len hq (j := 1) (by omega)
          rw [hpq, show decide (0 < q.2) = true from decide_eq_true (by omega), Bool.and_true] at hst
          have d3 : decide ((0 : Int) < ((m + 1 : Nat) : Int)) = true := decide_eq_true (by omega)
          clear hok d2 hr hpq hq
          obtain ⟨a, b⟩ := r
          obtain ⟨qa, qb⟩ := q
          dsimp only at hq2 g1 hst
          cases d4 : decide (a ≤ qb + 1)
          · rw [d4, cond_false] at hst
            repeat (first | refine gG ?_ | refine zN1 (fun hlen => ?_) | refine zN2 (fun hlen => ?_) | refine zAl (fun _ => ?_))
            refine zIx (m + 1) (hk') ?_
            repeat (first | refine gG ?_ | refine zN1 (fun hlen => ?_) | refine zN2 (fun hlen => ?_) | refine zAl (fun _ => ?_))
            refine zEl (hat) (rgTs_len _) ?_
            repeat (first | refine gG ?_ | refine zN1 (fun hlen => ?_) | refine zN2 (fun hlen => ?_) | refine zAl (fun _ => ?_))
            refine zCall (hrt) ?_
            rintro _ rfl
            repeat (first | refine gG ?_ | refine zN1 (fun hlen => ?_) | refine zN2 (fun hlen => ?_) | refine zAl (fun _ => ?_))
            refine ac_draw [1, 1, 1, 1, 1, 1, 1, 1, 1, 1, 1, 1, 1, 1, 1] [0, 1, 2, 3, 4, 5, 6, 7, 8, 9, 10, 11, 12, 13, 14] (by kernel_rfl) (by kernel_rfl) ?_
            refine gW ?_
            try (first | (apply w_un; (focus exact rfl); (focus exact rfl); (focus exact rfl); (focus exact rfl)) | (apply w_no; (focus exact rfl); (focus exact rfl); (focus exact rfl); (focus exact rfl); focus (first | rfl | assumption | exact neg_t (by assumption) | exact neg_f (by assumption))) | (apply w_qg; (focus exact rfl); (focus exact rfl); (focus exact rfl); (focus exact rfl); (focus (first | rfl | assumption | exact neg_t (by assumption) | exact neg_f (by assumption))); (focus (intro _; (refine lo_sub rfl rfl (r := ((m : Nat) : Int)) (by rw [IntWalk.i64_in _ (by omega)]; omega) ?_); exact det_refl))))
            (first | (apply w_un; (focus exact rfl); (focus exact rfl); (focus exact rfl); (focus exact rfl)) | (apply w_no; (focus exact rfl); (focus exact rfl); (focus exact rfl); (focus exact rfl); focus (first | rfl | assumption | exact neg_t (by assumption) | exact neg_f (by assumption))) | (apply w_qg; (focus exact rfl); (focus exact rfl); (focus exact rfl); (focus exact rfl); (focus (first | rfl | assumption | exact neg_t (by assumption) | exact neg_f (by assumption))); (focus (intro _; (refine zIx m hm ?_); exact det_refl))))
            try refine gW ?_
            try (first | (apply w_un; (focus exact rfl); (focus exact rfl); (focus exact rfl); (focus exact rfl)) | (apply w_no; (focus exact rfl); (focus exact rfl); (focus exact rfl); (focus exact rfl); focus (first | rfl | assumption | exact neg_t (by assumption) | exact neg_f (by assumption))) | (apply w_qg; (focus exact rfl); (focus exact rfl); (focus exact rfl); (focus exact rfl); (focus (first | rfl | assumption | exact neg_t (by assumption) | exact neg_f (by assumption))); (focus (intro _; (refine zEl1 g1 ?_); exact det_refl))))
            (first | (apply w_un; (focus exact rfl); (focus exact rfl); (focus exact rfl); (focus exact rfl)) | (apply w_no; (focus exact rfl); (focus exact rfl); (focus exact rfl); (focus exact rfl); focus (first | rfl | assumption | exact neg_t (by assumption) | exact neg_f (by assumption))) | (apply w_qg; (focus exact rfl); (focus exact rfl); (focus exact rfl); (focus exact rfl); (focus (first | rfl | assumption | exact neg_t (by assumption) | exact neg_f (by assumption))); (focus (intro _; (refine lo_add rfl rfl (r := qb + 1) (by rw [IntWalk.i64_in _ (by omega)]) ?_); exact det_refl))))
            try refine gW ?_
            refine w_nil ?_
            repeat (first | refine gG ?_ | refine zN1 (fun hlen => ?_) | refine zN2 (fun hlen => ?_) | refine zAl (fun _ => ?_))
            exact ⟨m + 1 + 1, ⟨hk', hst.symm, hok'⟩, by omega, x_wkd 0 ⟨rfl, trivial⟩ rfl (by repeat (first | exact ag_refl | refine ag_upd rfl ?_ | refine ag_at rfl rfl ?_))⟩
          · rw [d4, cond_true] at hst
            repeat (first | refine gG ?_ | refine zN1 (fun hlen => ?_) | refine zN2 (fun hlen => ?_) | refine zAl (fun _ => ?_))
            refine zIx (m + 1) (hk') ?_
            repeat (first | refine gG ?_ | refine zN1 (fun hlen => ?_) | refine zN2 (fun hlen => ?_) | refine zAl (fun _ => ?_))
            refine zEl (hat) (rgTs_len _) ?_
            repeat (first | refine gG ?_ | refine zN1 (fun hlen => ?_) | refine zN2 (fun hlen => ?_) | refine zAl (fun _ => ?_))
            refine zCall (hrt) ?_
            rintro _ rfl
            repeat (first | refine gG ?_ | refine zN1 (fun hlen => ?_) | refine zN2 (fun hlen => ?_) | refine zAl (fun _ => ?_))
            refine ac_draw [1, 1, 1, 1, 1, 1, 1, 1, 1, 1, 1, 1, 1, 1, 1] [0, 1, 2, 3, 4, 5, 6, 7, 8, 9, 10, 11, 12, 13, 14] (by kernel_rfl) (by kernel_rfl) ?_
            refine gW ?_
            try (first | (apply w_un; (focus exact rfl); (focus exact rfl); (focus exact rfl); (focus exact rfl)) | (apply w_no; (focus exact rfl); (focus exact rfl); (focus exact rfl); (focus exact rfl); focus (first | rfl | assumption | exact neg_t (by assumption) | exact neg_f (by assumption))) | (apply w_qg; (focus exact rfl); (focus exact rfl); (focus exact rfl); (focus exact rfl); (focus (first | rfl | assumption | exact neg_t (by assumption) | exact neg_f (by assumption))); (focus (intro _; (refine lo_sub rfl rfl (r := ((m : Nat) : Int)) (by rw [IntWalk.i64_in _ (by omega)]; omega) ?_); exact det_refl))))
            (first | (apply w_un; (focus exact rfl); (focus exact rfl); (focus exact rfl); (focus exact rfl)) | (apply w_no; (focus exact rfl); (focus exact rfl); (focus exact rfl); (focus exact rfl); focus (first | rfl | assumption | exact neg_t (by assumption) | exact neg_f (by assumption))) | (apply w_qg; (focus exact rfl); (focus exact rfl); (focus exact rfl); (focus exact rfl); (focus (first | rfl | assumption | exact neg_t (by assumption) | exact neg_f (by assumption))); (focus (intro _; (refine zIx m hm ?_); exact det_refl))))
            try refine gW ?_
            try (first | (apply w_un; (focus exact rfl); (focus exact rfl); (focus exact rfl); (focus exact rfl)) | (apply w_no; (focus exact rfl); (focus exact rfl); (focus exact rfl); (focus exact rfl); focus (first | rfl | assumption | exact neg_t (by assumption) | exact neg_f (by assumption))) | (apply w_qg; (focus exact rfl); (focus exact rfl); (focus exact rfl); (focus exact rfl); (focus (first | rfl | assumption | exact neg_t (by assumption) | exact neg_f (by assumption))); (focus (intro _; (refine zEl1 g1 ?_); exact det_refl))))
            (first | (apply w_un; (focus exact rfl); (focus exact rfl); (focus exact rfl); (focus exact rfl)) | (apply w_no; (focus exact rfl); (focus exact rfl); (focus exact rfl); (focus exact rfl); focus (first | rfl | assumption | exact neg_t (by assumption) | exact neg_f (by assumption))) | (apply w_qg; (focus exact rfl); (focus exact rfl); (focus exact rfl); (focus exact rfl); (focus (first | rfl | assumption | exact neg_t (by assumption) | exact neg_f (by assumption))); (focus (intro _; (refine lo_add rfl rfl (r := qb + 1) (by rw [IntWalk.i64_in _ (by omega)]) ?_); exact det_refl))))
            try refine gW ?_
            refine w_nil ?_
            repeat (first | refine gG ?_ | refine zN1 (fun hlen => ?_) | refine zN2 (fun hlen => ?_) | refine zAl (fun _ => ?_))
            first | refine zR ?_ | refine zQ ?_
            rw [hst]
            rfl
    · have hk' : k = l.length := by
        have : ¬ k < l.length := by simpa using h
        omega
      subst hk'
      rw [List.drop_length] at hf
      clear h hok
      repeat (first | refine gG ?_ | refine zN1 (fun hlen => ?_) | refine zN2 (fun hlen => ?_) | refine zAl (fun _ => ?_))
      first | refine zR ?_ | refine zQ ?_
      rw [← hf]
      rfl
end Go.Proofs.YtadlmkgeplnemaaDoor
namespace Go.Proofs.YtadlmkgeplnemaaDoor
open Go.RowKit
set_option maxRecDepth 100000 in
set_option maxHeartbeats 1000000 in
theorem pairs_af (l : List Rg) (hl : l.length ≤ 1048576) : AF Tryd.prog 15 [rgRow l] (· = rgRow l) := by
  refine af_enter tok Tryd.func15 Tryd.ntmps15 Tryd.results15 rfl (by kernel_rfl) rfl rfl fun F hX => ?_
  repeat (first | refine gG ?_ | refine zN1 (fun hlen => ?_) | refine zN2 (fun hlen => ?_) | refine zAl (fun _ => ?_) | refine zAp (fun _ => ?_))
  refine x_own 3 72 2 rfl rfl rfl rfl rfl ?_
  refine x_loop [3, 5, 8, 9, 10, 11, 12, 13, 14, 15, 16, 17, 18, 19, 20] (fun y : Nat × Value => [(8, .c (.lit (.int .i64 (y.1 : Nat)))), (3, .own 0 y.2)]) (fun y => [.row y.2 72 2 (l.take y.1).length ((l.take y.1).flatMap rgTs)])
    (fun y => y.1 ≤ l.length) (fun y => l.length - y.1) (0, .slice none 0 0) (Nat.zero_le _) ⟨rfl, rfl, trivial⟩ rfl ?_
  rintro ⟨k, v⟩ hk
  dsimp only at hk ⊢
  repeat (first | refine gG ?_ | refine zN1 (fun hlen => ?_) | refine zN2 (fun hlen => ?_) | refine zAl (fun _ => ?_) | refine zAp (fun _ => ?_))
  refine x_cond rfl (fun h => ?_) (fun h => ?_)
  · have hk' : k < l.length := by simpa using h
    obtain ⟨r, hr⟩ := nth hk'
    have hat := Rg.at hr
    have hone := rgs_one (l.take k) r
    rw [← takeR_snoc hr] at hone
    have hle : (l.take k).length ≤ 1048576 := by rw [List.length_take]; omega
    clear h hr
    generalize l.take k = A at *
    generalize hA' : l.take (k + 1) = A' at *
    obtain ⟨a, b⟩ := r
    repeat (first | refine gG ?_ | refine zN1 (fun hlen => ?_) | refine zN2 (fun hlen => ?_) | refine zAl (fun _ => ?_) | refine zAp (fun _ => ?_))
    refine zIx (k) (hk') ?_
    repeat (first | refine gG ?_ | refine zN1 (fun hlen => ?_) | refine zN2 (fun hlen => ?_) | refine zAl (fun _ => ?_) | refine zAp (fun _ => ?_))
    refine zEl (hat) (rgTs_len _) ?_
    repeat (first | refine gG ?_ | refine zN1 (fun hlen => ?_) | refine zN2 (fun hlen => ?_) | refine zAl (fun _ => ?_) | refine zAp (fun _ => ?_))
    refine zBda ?_
    repeat (first | refine gG ?_ | refine zN1 (fun hlen => ?_) | refine zN2 (fun hlen => ?_) | refine zAl (fun _ => ?_) | refine zAp (fun _ => ?_))
    exact ⟨(k + 1, _), hk', by simp only; omega, x_wkd 1 ⟨rfl, rfl, trivial⟩ (by dsimp only; rw [hA', hone.1, hone.2]; rfl) (by repeat (first | exact ag_refl | refine ag_upd rfl ?_ | refine ag_at rfl rfl ?_))⟩
  · have hk' : k = l.length := by
      have : ¬ k < l.length := by simpa using h
      omega
    subst hk'
    clear h
    rw [List.take_length]
    repeat (first | refine gG ?_ | refine zN1 (fun hlen => ?_) | refine zN2 (fun hlen => ?_) | refine zAl (fun _ => ?_) | refine zAp (fun _ => ?_))
    first | refine zR ?_ | refine zQ ?_
    rfl
theorem arr_guard : Tryd.prog.eqGuardType Tryd.prog.depth 72 = false := by kernel_rfl
set_option maxRecDepth 100000 in
theorem arr_info : ∃ i, Tryd.prog.info? 3 = some i := ⟨_, rfl⟩
set_option maxRecDepth 100000 in
theorem eq_arr (d : Nat) (a b : Int) (w : World) : (Op.equalIn (d + 1 + 1) 72 (.agg [.int .i64 a, .int .i64 b].toArray) (.agg [.int .i64 a, .int .i64 b].toArray)).run Tryd.prog w = .ok true w := by
  obtain ⟨i, hi⟩ := arr_info
  rw [run_equalIn_array w (d + 1) _ _ Tryd.underlying72 hi]
  have hc : Tryd.prog.cellsOf 3 = 1 := by kernel_rfl
  rw [hc]
  simp [Op.eqItems, List.range, List.range.loop, part, Tryd.isAgg3, run_equalIn_int w _ _ _ _ _ _ Tryd.underlying3]
set_option maxRecDepth 100000 in
theorem lo_neqA {F : Frm} {d : Option Tmp} {ty : TypeId} {pos : String} {aft : Array Edge} {g : Option (Nat × Bool)} {ρ : Operand → AV} {hp : List Blk} {K : AV → List Blk → Prop} {t' : TypeId} {x y : Operand} (u : Rg) (h : K (.c (.lit (.bool false))) hp) (hx : ρ x = .c (.agg (rgTs u))) (hy : ρ y = .c (.agg (rgTs u))) : LO Tryd.prog F ⟨d, .binOp .neq 72 x y t', ty, pos, aft, g⟩ ρ hp K := by
  obtain ⟨a, b⟩ := u
  refine LO.same (fun M e w he hh => ?_) h
  have h1 := he x (by simp [Op.operands])
  rw [hx] at h1
  have h2 := he y (by simp [Op.operands])
  rw [hy] at h2
  simp only [RA, RT, rgTs, RTs] at h1 h2
  obtain ⟨xs, h1, q0, r0, rfl, rfl, q1, r1, rfl, rfl, rfl⟩ := h1
  obtain ⟨ys, h2, q0, r0, rfl, rfl, q1, r1, rfl, rfl, rfl⟩ := h2
  refine ⟨.bool false, ?_, by simp only [RA, RT]⟩
  have hg := run_eqGuard_agg (P := Tryd.prog) w .neq 72 x y [.int .i64 a, .int .i64 b].toArray [.int .i64 a, .int .i64 b].toArray arr_guard
  have hr := run_neq_struct (P := Tryd.prog) w 72 [.int .i64 a, .int .i64 b].toArray [.int .i64 a, .int .i64 b].toArray
  have he2 := eq_arr 9998 a b w
  rw [show (9998 + 1 + 1) = 10000 from rfl] at he2
  rw [he2, Result.andThen_ok] at hr
  simp [execOp, h1, h2, hg, hr]
set_option maxRecDepth 100000 in
set_option maxHeartbeats 1000000 in
theorem equal_af (l : List Rg) : AF Tryd.prog 36 [rgRow l, rgRow l] (· = .lit (.bool true)) := by
  have q1 : decide (((l.length : Nat) : Int) = ((l.length : Nat) : Int)) = true := decide_eq_true rfl
  refine af_enter tok Tryd.func36 Tryd.ntmps36 Tryd.results36 rfl (by kernel_rfl) rfl rfl fun F hX => ?_
  repeat (first | refine gG ?_ | refine zN1 (fun hlen => ?_) | refine zN2 (fun hlen => ?_))
  refine x_loop [4, 5, 13, 14, 15, 16, 17, 18, 19, 20, 21, 22, 23, 24, 25] (fun k : Nat => [(13, .c (.lit (.int .i64 (k : Nat))))]) (fun _ => []) (fun k => k ≤ l.length) (fun k => l.length - k) 0 (Nat.zero_le _) ⟨rfl, trivial⟩ rfl ?_
  rintro k hk
  repeat (first | refine gG ?_ | refine zN1 (fun hlen => ?_) | refine zN2 (fun hlen => ?_))
  refine x_cond rfl (fun h => ?_) (fun h => ?_)
  · have hk' : k < l.length := by simpa using h
    obtain ⟨r, hr⟩ := nth hk'
    have hat := Rg.at hr
    clear h hr
    repeat (first | refine gG ?_ | refine zN1 (fun hlen => ?_) | refine zN2 (fun hlen => ?_))
    refine ac_draw [1, 1, 1, 1, 1, 1, 1, 1, 1] [0, 1, 2, 3, 4, 5, 6, 7, 8] (by kernel_rfl) (by kernel_rfl) ?_
    refine gW ?_
    apply w_q; (focus exact rfl); (focus exact rfl); focus (intro _; (refine zIx k hk' ?_); exact det_refl)
    apply w_q; (focus exact rfl); (focus exact rfl); focus (intro _; (refine zEl hat (rgTs_len _) ?_); exact det_refl)
    refine gW ?_
    apply w_q; (focus exact rfl); (focus exact rfl); focus (intro _; (refine zIx k hk' ?_); exact det_refl)
    apply w_q; (focus exact rfl); (focus exact rfl); focus (intro _; (refine zEl hat (rgTs_len _) ?_); exact det_refl)
    apply w_q; (focus exact rfl); (focus exact rfl); focus (intro _; (refine lo_neqA r ?_ rfl rfl); exact det_refl)
    refine w_nil ?_
    repeat (first | refine gG ?_ | refine zN1 (fun hlen => ?_) | refine zN2 (fun hlen => ?_))
    exact ⟨k + 1, hk', by omega, x_wkd 0 ⟨rfl, trivial⟩ rfl (by repeat (first | exact ag_refl | refine ag_upd rfl ?_ | refine ag_at rfl rfl ?_))⟩
  · have hk' : k = l.length := by
      have : ¬ k < l.length := by simpa using h
      omega
    subst hk'
    clear h
    repeat (first | refine gG ?_ | refine zN1 (fun hlen => ?_) | refine zN2 (fun hlen => ?_))
    first | refine zR ?_ | refine zQ ?_
    rfl
set_option maxRecDepth 100000 in
set_option maxHeartbeats 1000000 in
theorem same_af (l : List Rg) (hl : l.length ≤ 1048576) : AF Tryd.prog 18 [rgRow l, rgRow l] (· = .lit (.bool true)) := by
  have hp := pairs_af l hl
  have he := equal_af l
  refine af_enter tok Tryd.func18 Tryd.ntmps18 Tryd.results18 rfl (by kernel_rfl) rfl rfl fun F hX => ?_
  repeat (first | refine gG ?_)
  refine zCall (hp) ?_
  rintro _ rfl
  repeat (first | refine gG ?_)
  refine zCall (he) ?_
  rintro _ rfl
  repeat (first | refine gG ?_)
  first | refine zR ?_ | refine zQ ?_
  rfl
end Go.Proofs.YtadlmkgeplnemaaDoor
namespace Go.Proofs.YtadlmkgeplnemaaDoor
open Go.RowKit
theorem fault_step' {l : List Rg} {k : Nat} {r : Rg} (h : l[k]? = some r) (p : Int) : faultAt p (l.drop k) = bif rgOk r then (bif decide (r.1 ≤ p + 1) && decide (0 < p) then 21 else faultAt r.2 (l.drop (k + 1))) else 1 := by
  obtain ⟨h1, h2⟩ := List.getElem?_eq_some_iff.1 h
  rw [List.drop_eq_getElem_cons h1, faultAt, h2]
theorem rgOk_not (a b : Int) : rgOk (a, b) = (!decide (a < 1) && !decide (9999 < b) && !decide (b < a)) := by
  have e1 : decide (1 ≤ a) = !decide (a < 1) := by by_cases h : a < 1 <;> simp [h] <;> omega
  have e2 : decide (b ≤ 9999) = !decide (9999 < b) := by by_cases h : 9999 < b <;> simp [h] <;> omega
  have e3 : decide (a ≤ b) = !decide (b < a) := by by_cases h : b < a <;> simp [h] <;> omega
  show (decide (1 ≤ a) && decide (b ≤ 9999) && decide (a ≤ b)) = _
  rw [e1, e2, e3]
set_option maxRecDepth 100000 in
set_option maxHeartbeats 2000000 in
theorem fault_af (l : List Rg) : AF Tryd.prog 35 [rgRow l] (· = .lit (.int .i64 (faultL l))) := by
  have hfl : faultL l = bif decide (50 < ((l.length : Nat) : Int)) then 2 else faultAt (-1) l := by
    unfold faultL
    by_cases h : l.length ≤ 50
    · rw [decide_eq_true h, decide_eq_false (by omega)]; rfl
    · rw [decide_eq_false h, decide_eq_true (by omega)]; rfl
  rw [hfl]
  clear hfl
  refine af_enter tok Tryd.func35 Tryd.ntmps35 Tryd.results35 rfl (by kernel_rfl) rfl rfl fun F hX => ?_
  cases d1 : decide (50 < ((l.length : Nat) : Int))
  rotate_left
  · repeat (first | refine gG ?_ | refine zN1 (fun hlen => ?_) | refine zN2 (fun hlen => ?_) | refine zAl (fun _ => ?_))
    first | refine zR ?_ | refine zQ ?_
    rfl
  · rw [cond_false]
    repeat (first | refine gG ?_ | refine zN1 (fun hlen => ?_) | refine zN2 (fun hlen => ?_) | refine zAl (fun _ => ?_))
    refine x_loop [2, 3, 5, 11, 12, 13, 14, 15, 16, 17, 18, 19, 20, 21, 22, 23, 24, 25, 26, 27, 28, 29, 30, 31, 32, 33, 34, 35, 36, 37, 38, 39, 40, 41] (fun y : Nat × Int => [(11, .c (.lit (.int .i64 (y.1 : Nat)))), (3, .c (.lit (.int .i64 y.2)))]) (fun _ => []) (fun y => y.1 ≤ l.length ∧ faultAt y.2 (l.drop y.1) = faultAt (-1) l ∧ -1 ≤ y.2 ∧ y.2 ≤ 9999) (fun y => l.length - y.1) (0, -1) ⟨Nat.zero_le _, rfl, Int.le_refl _, by decide⟩ ⟨rfl, rfl, trivial⟩ rfl ?_
    rintro ⟨k, p⟩ ⟨hk, hf, hp1, hp2⟩
    dsimp only at hk hf hp1 hp2 ⊢
    repeat (first | refine gG ?_ | refine zN1 (fun hlen => ?_) | refine zN2 (fun hlen => ?_) | refine zAl (fun _ => ?_))
    refine x_cond rfl (fun h => ?_) (fun h => ?_)
    · have hk' : k < l.length := by simpa using h
      obtain ⟨r, hr⟩ := nth hk'
      have hat := Rg.at hr
      have hst := fault_step' hr p
      rw [hf] at hst
      clear h hf hr
      obtain ⟨a, b⟩ := r
      rw [rgOk_not] at hst
      cases d2 : decide (a < 1)
      rotate_left
      · rw [d2] at hst
        repeat (first | refine gG ?_ | refine zN1 (fun hlen => ?_) | refine zN2 (fun hlen => ?_) | refine zAl (fun _ => ?_))
        refine zIx (k) (hk') ?_
        repeat (first | refine gG ?_ | refine zN1 (fun hlen => ?_) | refine zN2 (fun hlen => ?_) | refine zAl (fun _ => ?_))
        refine zEl (hat) (rgTs_len _) ?_
        repeat (first | refine zIxb 0 ?_ | refine zIxb 1 ?_ | refine gG ?_ | refine zN1 (fun hlen => ?_) | refine zN2 (fun hlen => ?_) | refine zAl (fun _ => ?_) | refine zBx (fun _ => ?_) | refine zAp (fun _ => ?_))
        first | refine zR ?_ | refine zQ ?_
        rw [hst]
        rfl
      cases d3 : decide (9999 < b)
      rotate_left
      · rw [d2, d3] at hst
        repeat (first | refine gG ?_ | refine zN1 (fun hlen => ?_) | refine zN2 (fun hlen => ?_) | refine zAl (fun _ => ?_))
        refine zIx (k) (hk') ?_
        repeat (first | refine gG ?_ | refine zN1 (fun hlen => ?_) | refine zN2 (fun hlen => ?_) | refine zAl (fun _ => ?_))
        refine zEl (hat) (rgTs_len _) ?_
        repeat (first | refine zIxb 0 ?_ | refine zIxb 1 ?_ | refine gG ?_ | refine zN1 (fun hlen => ?_) | refine zN2 (fun hlen => ?_) | refine zAl (fun _ => ?_) | refine zBx (fun _ => ?_) | refine zAp (fun _ => ?_))
        first | refine zR ?_ | refine zQ ?_
        rw [hst]
        rfl
      cases d4 : decide (b < a)
      rotate_left
      · rw [d2, d3, d4] at hst
        repeat (first | refine gG ?_ | refine zN1 (fun hlen => ?_) | refine zN2 (fun hlen => ?_) | refine zAl (fun _ => ?_))
        refine zIx (k) (hk') ?_
        repeat (first | refine gG ?_ | refine zN1 (fun hlen => ?_) | refine zN2 (fun hlen => ?_) | refine zAl (fun _ => ?_))
        refine zEl (hat) (rgTs_len _) ?_
        repeat (first | refine zIxb 0 ?_ | refine zIxb 1 ?_ | refine gG ?_ | refine zN1 (fun hlen => ?_) | refine zN2 (fun hlen => ?_) | refine zAl (fun _ => ?_) | refine zBx (fun _ => ?_) | refine zAp (fun _ => ?_))
        first | refine zR ?_ | refine zQ ?_
        rw [hst]
        rfl
      have hb1 : b ≤ 9999 := by have := of_decide_eq_false d3; omega
      have hb2 : 1 ≤ b := by have h1 := of_decide_eq_false d2; have h2 := of_decide_eq_false d4; omega
      rw [d2, d3, d4] at hst
      dsimp only at hst
      cases d5 : decide (a ≤ p + 1)
      · rw [d5] at hst
        repeat (first | refine gG ?_ | refine zN1 (fun hlen => ?_) | refine zN2 (fun hlen => ?_) | refine zAl (fun _ => ?_))
        refine zIx (k) (hk') ?_
        repeat (first | refine gG ?_ | refine zN1 (fun hlen => ?_) | refine zN2 (fun hlen => ?_) | refine zAl (fun _ => ?_))
        refine zEl (hat) (rgTs_len _) ?_
        repeat (first | refine zIxb 0 ?_ | refine zIxb 1 ?_ | refine gG ?_ | refine zN1 (fun hlen => ?_) | refine zN2 (fun hlen => ?_) | refine zAl (fun _ => ?_) | refine zBx (fun _ => ?_) | refine zAp (fun _ => ?_))
        refine lo_add rfl rfl (r := p + 1) (by rw [IntWalk.i64_in _ (by omega)]) ?_
        repeat (first | refine zIxb 0 ?_ | refine zIxb 1 ?_ | refine gG ?_ | refine zN1 (fun hlen => ?_) | refine zN2 (fun hlen => ?_) | refine zAl (fun _ => ?_) | refine zBx (fun _ => ?_) | refine zAp (fun _ => ?_))
        exact ⟨(k + 1, b), ⟨hk', hst.symm, by simp only; omega, hb1⟩, by simp only; omega, x_wkd 0 ⟨rfl, rfl, trivial⟩ rfl (by repeat (first | exact ag_refl | refine ag_upd rfl ?_ | refine ag_at rfl rfl ?_))⟩
      · cases d6 : decide (0 < p)
        · rw [d5, d6] at hst
          repeat (first | refine gG ?_ | refine zN1 (fun hlen => ?_) | refine zN2 (fun hlen => ?_) | refine zAl (fun _ => ?_))
          refine zIx (k) (hk') ?_
          repeat (first | refine gG ?_ | refine zN1 (fun hlen => ?_) | refine zN2 (fun hlen => ?_) | refine zAl (fun _ => ?_))
          refine zEl (hat) (rgTs_len _) ?_
          repeat (first | refine zIxb 0 ?_ | refine zIxb 1 ?_ | refine gG ?_ | refine zN1 (fun hlen => ?_) | refine zN2 (fun hlen => ?_) | refine zAl (fun _ => ?_) | refine zBx (fun _ => ?_) | refine zAp (fun _ => ?_))
          refine lo_add rfl rfl (r := p + 1) (by rw [IntWalk.i64_in _ (by omega)]) ?_
          repeat (first | refine zIxb 0 ?_ | refine zIxb 1 ?_ | refine gG ?_ | refine zN1 (fun hlen => ?_) | refine zN2 (fun hlen => ?_) | refine zAl (fun _ => ?_) | refine zBx (fun _ => ?_) | refine zAp (fun _ => ?_))
          exact ⟨(k + 1, b), ⟨hk', hst.symm, by simp only; omega, hb1⟩, by simp only; omega, x_wkd 0 ⟨rfl, rfl, trivial⟩ rfl (by repeat (first | exact ag_refl | refine ag_upd rfl ?_ | refine ag_at rfl rfl ?_))⟩
        · rw [d5, d6] at hst
          repeat (first | refine gG ?_ | refine zN1 (fun hlen => ?_) | refine zN2 (fun hlen => ?_) | refine zAl (fun _ => ?_))
          refine zIx (k) (hk') ?_
          repeat (first | refine gG ?_ | refine zN1 (fun hlen => ?_) | refine zN2 (fun hlen => ?_) | refine zAl (fun _ => ?_))
          refine zEl (hat) (rgTs_len _) ?_
          repeat (first | refine zIxb 0 ?_ | refine zIxb 1 ?_ | refine gG ?_ | refine zN1 (fun hlen => ?_) | refine zN2 (fun hlen => ?_) | refine zAl (fun _ => ?_) | refine zBx (fun _ => ?_) | refine zAp (fun _ => ?_))
          refine lo_add rfl rfl (r := p + 1) (by rw [IntWalk.i64_in _ (by omega)]) ?_
          repeat (first | refine zIxb 0 ?_ | refine zIxb 1 ?_ | refine gG ?_ | refine zN1 (fun hlen => ?_) | refine zN2 (fun hlen => ?_) | refine zAl (fun _ => ?_) | refine zBx (fun _ => ?_) | refine zAp (fun _ => ?_))
          first | refine zR ?_ | refine zQ ?_
          rw [hst]
          rfl
    · have hk' : k = l.length := by
        have : ¬ k < l.length := by simpa using h
        omega
      subst hk'
      rw [List.drop_length] at hf
      clear h
      repeat (first | refine gG ?_ | refine zN1 (fun hlen => ?_) | refine zN2 (fun hlen => ?_) | refine zAl (fun _ => ?_))
      first | refine zR ?_ | refine zQ ?_
      rw [← hf]
      rfl
def BitsOf (l : List Rg) (bl : List Bool) : Prop := bl.length = 10001 ∧ ∀ i : Nat, i < 10001 → bl[i]? = some (inB l i)
def BitsTo (l : List Rg) (r : Rg) (m : Nat) (bl : List Bool) : Prop := bl.length = 10001 ∧ ∀ i : Nat, i < 10001 → bl[i]? = some (inB l i || (decide (r.1 ≤ i) && decide (i < m)))
theorem BitsTo.set {l : List Rg} {bl : List Bool} {r : Rg} {m : Nat} (h : BitsTo l r m bl) (hm : r.1 ≤ m) (hb : m < 10001) : BitsTo l r (m + 1) (bl.set m true) := by
  refine ⟨by rw [List.length_set]; exact h.1, fun i hi => ?_⟩
  rw [List.getElem?_set]
  by_cases he : m = i
  · subst he
    rw [if_pos rfl, if_pos (by rw [h.1]; exact hb), decide_eq_true hm, decide_eq_true (by omega), Bool.and_true, Bool.or_true]
  · rw [if_neg he, h.2 i hi]
    have : decide (i < m + 1) = decide (i < m) := decide_eq_decide.2 (by omega)
    rw [this]
theorem BitsTo.done {l : List Rg} {bl : List Bool} {r : Rg} {m : Nat} (h : BitsTo l r m bl) (hm : (m : Int) = r.2 + 1) : BitsOf (l ++ [r]) bl := by
  refine ⟨h.1, fun i hi => ?_⟩
  rw [h.2 i hi]
  have : decide (i < m) = decide ((i : Int) ≤ r.2) := decide_eq_decide.2 (by omega)
  rw [this]
  simp [inB]
end Go.Proofs.YtadlmkgeplnemaaDoor
namespace Go.Proofs.YtadlmkgeplnemaaDoor
open Go.RowKit
theorem RgN.i1 {r : Int × Int} (h : RgN r) : inI r.1 := ⟨by have := h.l1; omega, h.h1⟩
theorem RgN.i2 {r : Int × Int} (h : RgN r) : inI r.2 := ⟨by have := h.l2; omega, h.h2⟩
theorem map_snoc {α β : Type} (f : α → β) {l : List α} {k : Nat} {a : α} (h : l[k]? = some a) : (l.take (k + 1)).map f = (l.take k).map f ++ [f a] := by
  obtain ⟨h1, rfl⟩ := List.getElem?_eq_some_iff.1 h
  rw [List.take_succ_eq_append_getElem h1, List.map_append]
  rfl
theorem join_vt (l : List Rg) : joinS (l.map fun r => bs (itL r)) ⟨#[44]⟩ = bs (vtL l) := by
  unfold joinS vtL
  rw [List.map_map, show ((fun x : ByteArray => x.data.toList) ∘ fun r => bs (itL r)) = itL from funext fun r => by simp [bs]]
  rfl
theorem vt_len {l : List Rg} (h : ∀ r ∈ l, RgN r) : (vtL l).length ≤ 40 * l.length := by
  have := join_len (c := 44) (n := 39) (l.map itL) (fun x hx => by
    obtain ⟨r, hr, rfl⟩ := List.mem_map.1 hx
    exact itL_len (h r hr))
  rw [List.length_map] at this
  exact this
set_option maxRecDepth 100000 in
set_option maxHeartbeats 4000000 in
theorem vText_af (l : List Rg) : AF Tryd.prog 13 [rgRow l] (· = .tup [.lit (.string (vtV l).1), .lit (.int .i64 (vtV l).2)]) := by
  have hck := check_af l
  unfold vtV
  cases d : decide (faultL l = 0)
  · rw [cond_false]
    dsimp only
    generalize faultL l = e at *
    refine af_enter tok Tryd.func13 Tryd.ntmps13 Tryd.results13 rfl (by kernel_rfl) rfl rfl fun F hX => ?_
    repeat (first | refine gG ?_ | refine zN1 (fun hlen => ?_) | refine zN2 (fun hlen => ?_) | refine zAl (fun _ => ?_) | refine zAp (fun _ => ?_))
    refine zCall (hck) ?_
    rintro _ rfl
    repeat (first | refine gG ?_ | refine zN1 (fun hlen => ?_) | refine zN2 (fun hlen => ?_) | refine zAl (fun _ => ?_) | refine zAp (fun _ => ?_))
    first | refine zR ?_ | refine zQ ?_
    rfl
  have hf := of_decide_eq_true d
  rw [hf] at hck
  have hn := rgN_of hf
  have h50 := (faultL_ok hf).2.2
  have hjl := vt_len hn
  have hjn := join_vt l
  have hj := join_af (l.map fun r => bs (itL r)) ⟨#[44]⟩ (by rw [List.length_map]; omega) (by
    have h1 := congrArg ByteArray.size hjn
    rw [bs_size'] at h1
    have h2 : (joinS (l.map fun r => bs (itL r)) ⟨#[44]⟩).size = (Lib.join ((l.map fun r => bs (itL r)).map (·.data.toList)) (⟨#[44]⟩ : ByteArray).data.toList).length := by simp [joinS, ByteArray.size]
    omega)
  rw [hjn] at hj
  clear hjn hjl hf d
  rw [cond_true]
  dsimp only
  generalize bs (vtL l) = res at *
  refine af_enter tok Tryd.func13 Tryd.ntmps13 Tryd.results13 rfl (by kernel_rfl) rfl rfl fun F hX => ?_
  repeat (first | refine gG ?_ | refine zN1 (fun hlen => ?_) | refine zN2 (fun hlen => ?_) | refine zAl (fun _ => ?_) | refine zAp (fun _ => ?_))
  refine zCall (hck) ?_
  rintro _ rfl
  clear hck
  repeat (first | refine gG ?_ | refine zN1 (fun hlen => ?_) | refine zN2 (fun hlen => ?_) | refine zAl (fun _ => ?_) | refine zAp (fun _ => ?_))
  refine x_own 5 9 1 rfl rfl rfl rfl rfl ?_
  refine x_loop [5, 7, 8, 16, 17, 18, 19, 20, 21, 22, 23, 24, 25, 26, 27, 28, 29, 30, 31, 32, 33, 34, 35, 36, 37, 38] (fun y : Nat × Value => [(16, .c (.lit (.int .i64 (y.1 : Nat)))), (5, .own 0 y.2)]) (fun y => [.row y.2 9 1 ((l.take y.1).map fun r => bs (itL r)).length (((l.take y.1).map fun r => bs (itL r)).flatMap strTs)])
    (fun y => y.1 ≤ l.length) (fun y => l.length - y.1) (0, .slice none 0 0) (Nat.zero_le _) ⟨rfl, rfl, trivial⟩ rfl ?_
  rintro ⟨k, v⟩ hk
  dsimp only at hk ⊢
  repeat (first | refine gG ?_ | refine zN1 (fun hlen => ?_) | refine zN2 (fun hlen => ?_) | refine zAl (fun _ => ?_) | refine zAp (fun _ => ?_))
  refine x_cond rfl (fun h => ?_) (fun h => ?_)
  · have hk' : k < l.length := by simpa using h
    obtain ⟨r, hr⟩ := nth hk'
    have hrn := hn r (List.mem_of_getElem? hr)
    have hat := Rg.at hr
    have hsn := map_snoc (fun r : Rg => bs (itL r)) hr
    have hle : ((l.take k).map fun r => bs (itL r)).length ≤ 1048576 := by rw [List.length_map, List.length_take]; omega
    have ha := itoa_af r.1 hrn.i1
    have hb := itoa_af r.2 hrn.i2
    have la := itoa_len hrn.l1 hrn.h1
    have lb := itoa_len hrn.l2 hrn.h2
    have hit : itL r = Lib.itoa r.1 ++ (if r.2 = r.1 then [] else 45 :: Lib.itoa r.2) := rfl
    generalize (l.take k).map (fun r => bs (itL r)) = A at *
    generalize itL r = it at *
    clear h hr hrn hn hj
    obtain ⟨a, b⟩ := r
    dsimp only at ha hb la lb hit
    by_cases e : b = a
    · have de : decide (b = a) = true := decide_eq_true e
      rw [if_pos e, List.append_nil] at hit
      subst hit
      clear hb lb
      generalize Lib.itoa a = ia at *
      repeat (first | refine gG ?_ | refine zN1 (fun hlen => ?_) | refine zN2 (fun hlen => ?_) | refine zAl (fun _ => ?_) | refine zAp (fun _ => ?_))
      refine zIx (k) (hk') ?_
      repeat (first | refine gG ?_ | refine zN1 (fun hlen => ?_) | refine zN2 (fun hlen => ?_) | refine zAl (fun _ => ?_) | refine zAp (fun _ => ?_))
      refine zEl (hat) (rgTs_len _) ?_
      repeat (first | refine gG ?_ | refine zN1 (fun hlen => ?_) | refine zN2 (fun hlen => ?_) | refine zAl (fun _ => ?_) | refine zAp (fun _ => ?_))
      refine zCall (ha) ?_
      rintro _ rfl
      repeat (first | refine gG ?_ | refine zN1 (fun hlen => ?_) | refine zN2 (fun hlen => ?_) | refine zAl (fun _ => ?_) | refine zAp (fun _ => ?_))
      exact ⟨(k + 1, _), hk', by simp only; omega, x_wkd 1 ⟨rfl, rfl, trivial⟩ (by dsimp only; rw [hsn]; simp only [List.length_append, List.flatMap_append]; rfl) (by repeat (first | exact ag_refl | refine ag_upd rfl ?_ | refine ag_at rfl rfl ?_))⟩
    · have de : decide (b = a) = false := decide_eq_false e
      rw [if_neg e] at hit
      subst hit
      generalize Lib.itoa a = ia at *
      generalize Lib.itoa b = ib at *
      repeat (first | refine gG ?_ | refine zN1 (fun hlen => ?_) | refine zN2 (fun hlen => ?_) | refine zAl (fun _ => ?_) | refine zAp (fun _ => ?_))
      refine zIx (k) (hk') ?_
      repeat (first | refine gG ?_ | refine zN1 (fun hlen => ?_) | refine zN2 (fun hlen => ?_) | refine zAl (fun _ => ?_) | refine zAp (fun _ => ?_))
      refine zEl (hat) (rgTs_len _) ?_
      repeat (first | refine gG ?_ | refine zN1 (fun hlen => ?_) | refine zN2 (fun hlen => ?_) | refine zAl (fun _ => ?_) | refine zAp (fun _ => ?_))
      refine zCall (ha) ?_
      rintro _ rfl
      repeat (first | refine gG ?_ | refine zN1 (fun hlen => ?_) | refine zN2 (fun hlen => ?_) | refine zAl (fun _ => ?_) | refine zAp (fun _ => ?_))
      refine zCall (hb) ?_
      rintro _ rfl
      repeat (first | refine gG ?_ | refine zN1 (fun hlen => ?_) | refine zN2 (fun hlen => ?_) | refine zAl (fun _ => ?_) | refine zAp (fun _ => ?_))
      refine zCatb [45] ib (by simp; omega) ?_
      repeat (first | refine gG ?_ | refine zN1 (fun hlen => ?_) | refine zN2 (fun hlen => ?_) | refine zAl (fun _ => ?_) | refine zAp (fun _ => ?_))
      refine zCatb ia ([45] ++ ib) (by simp; omega) ?_
      repeat (first | refine gG ?_ | refine zN1 (fun hlen => ?_) | refine zN2 (fun hlen => ?_) | refine zAl (fun _ => ?_) | refine zAp (fun _ => ?_))
      exact ⟨(k + 1, _), hk', by simp only; omega, x_wkd 1 ⟨rfl, rfl, trivial⟩ (by dsimp only; rw [hsn]; simp only [List.length_append, List.flatMap_append]; rfl) (by repeat (first | exact ag_refl | refine ag_upd rfl ?_ | refine ag_at rfl rfl ?_))⟩
  have hk' : k = l.length := by have : ¬ k < l.length := by simpa using h
                                omega
  subst hk'
  rw [List.take_length]
  clear h hk hn
  refine x_fz 5 rfl rfl rfl rfl ?_
  repeat (first | refine gG ?_ | refine zN1 (fun hlen => ?_) | refine zN2 (fun hlen => ?_) | refine zAl (fun _ => ?_) | refine zAp (fun _ => ?_))
  refine zCall (hj) ?_
  rintro _ rfl
  repeat (first | refine gG ?_ | refine zN1 (fun hlen => ?_) | refine zN2 (fun hlen => ?_) | refine zAl (fun _ => ?_) | refine zAp (fun _ => ?_))
  first | refine zR ?_ | refine zQ ?_
  rfl
def vtTo (l : List Rg) (k : Nat) : List UInt8 := vtL (l.take k)
theorem vtTo_snoc {l : List Rg} {k : Nat} {r : Rg} (h : l[k]? = some r) : vtTo l (k + 1) = vtTo l k ++ ((if 0 < k then [44] else []) ++ itL r) := by
  have h1 := map_snoc itL h
  unfold vtTo vtL
  rw [h1]
  cases k with
  | zero => rw [List.take_zero, List.map_nil]; simp [Lib.join_one, Lib.join_nil]
  | succ k =>
    have hk := (List.getElem?_eq_some_iff.1 h).1
    rw [join_snoc (by
      intro e
      have := congrArg List.length e
      rw [List.length_map, List.length_take, List.length_nil] at this
      omega), if_pos (by omega)]
set_option maxRecDepth 100000 in
set_option maxHeartbeats 4000000 in
theorem refText_af (l : List Rg) : AF Tryd.prog 14 [rgRow l] (· = .tup [.lit (.string (vtV l).1), .lit (.int .i64 (vtV l).2)]) := by
  have hck := fault_af l
  unfold vtV
  cases d : decide (faultL l = 0)
  · rw [cond_false]
    dsimp only
    generalize faultL l = e at *
    refine af_enter tok Tryd.func14 Tryd.ntmps14 Tryd.results14 rfl (by kernel_rfl) rfl rfl fun F hX => ?_
    repeat (first | refine gG ?_ | refine zN1 (fun hlen => ?_) | refine zN2 (fun hlen => ?_) | refine zAl (fun _ => ?_))
    refine zCall (hck) ?_
    rintro _ rfl
    repeat (first | refine gG ?_ | refine zN1 (fun hlen => ?_) | refine zN2 (fun hlen => ?_) | refine zAl (fun _ => ?_))
    first | refine zR ?_ | refine zQ ?_
    rfl
  have hf := of_decide_eq_true d
  rw [hf] at hck
  have hn := rgN_of hf
  have h50 := (faultL_ok hf).2.2
  rw [cond_true]
  dsimp only
  clear hf d
  refine af_enter tok Tryd.func14 Tryd.ntmps14 Tryd.results14 rfl (by kernel_rfl) rfl rfl fun F hX => ?_
  repeat (first | refine gG ?_ | refine zN1 (fun hlen => ?_) | refine zN2 (fun hlen => ?_) | refine zAl (fun _ => ?_))
  refine zCall (hck) ?_
  rintro _ rfl
  clear hck
  repeat (first | refine gG ?_ | refine zN1 (fun hlen => ?_) | refine zN2 (fun hlen => ?_) | refine zAl (fun _ => ?_))
  refine x_loop [5, 6, 7, 15, 16, 17, 18, 19, 20, 21, 22, 23, 24, 25, 26, 27, 28, 29, 30, 31, 32, 33, 34, 35, 36, 37, 38, 39, 40] (fun k : Nat => [(15, .c (.lit (.int .i64 (k : Nat)))), (5, .c (.lit (.string (bs (vtTo l k)))))]) (fun _ => []) (fun k => k ≤ l.length) (fun k => l.length - k) 0 (Nat.zero_le _) ⟨rfl, rfl, trivial⟩ rfl ?_
  rintro k hk
  repeat (first | refine gG ?_ | refine zN1 (fun hlen => ?_) | refine zN2 (fun hlen => ?_) | refine zAl (fun _ => ?_))
  refine x_cond rfl (fun h => ?_) (fun h => ?_)
  · have hk' : k < l.length := by simpa using h
    obtain ⟨r, hr⟩ := nth hk'
    have hrn := hn r (List.mem_of_getElem? hr)
    have hat := Rg.at hr
    have hsn := vtTo_snoc hr
    have hle : (vtTo l k).length ≤ 2000 := by
      have h1 := vt_len (l := l.take k) fun q hq => hn q (List.mem_of_mem_take hq)
      rw [List.length_take] at h1
      unfold vtTo
      omega
    have ha := itoa_af r.1 hrn.i1
    have hb := itoa_af r.2 hrn.i2
    have la := itoa_len hrn.l1 hrn.h1
    have lb := itoa_len hrn.l2 hrn.h2
    have hit : itL r = Lib.itoa r.1 ++ (if r.2 = r.1 then [] else 45 :: Lib.itoa r.2) := rfl
    rw [hit] at hsn
    generalize vtTo l k = T0 at *
    generalize hT1 : vtTo l (k + 1) = T1 at *
    clear h hr hrn hn hit
    obtain ⟨a, b⟩ := r
    dsimp only at ha hb la lb hsn
    cases d0 : decide ((0 : Int) < ((k : Nat) : Int))
    · have k0 : ¬ 0 < k := by have := of_decide_eq_false d0; omega
      rw [if_neg k0, List.nil_append] at hsn
      by_cases e : b = a
      · have de : decide (b = a) = true := decide_eq_true e
        rw [if_pos e, List.append_nil] at hsn
        subst hsn
        clear hb lb
        generalize Lib.itoa a = ia at *
        repeat (first | refine gG ?_ | refine zN1 (fun hlen => ?_) | refine zN2 (fun hlen => ?_) | refine zAl (fun _ => ?_))
        refine zIx (k) (hk') ?_
        repeat (first | refine gG ?_ | refine zN1 (fun hlen => ?_) | refine zN2 (fun hlen => ?_) | refine zAl (fun _ => ?_))
        refine zEl (hat) (rgTs_len _) ?_
        repeat (first | refine zIxb 0 ?_ | refine zIxb 1 ?_ | refine gG ?_ | refine zN1 (fun hlen => ?_) | refine zN2 (fun hlen => ?_) | refine zAl (fun _ => ?_) | refine zBx (fun _ => ?_) | refine zAp (fun _ => ?_))
        refine zCall (ha) ?_
        rintro _ rfl
        repeat (first | refine zIxb 0 ?_ | refine zIxb 1 ?_ | refine gG ?_ | refine zN1 (fun hlen => ?_) | refine zN2 (fun hlen => ?_) | refine zAl (fun _ => ?_) | refine zBx (fun _ => ?_) | refine zAp (fun _ => ?_))
        refine zCatb T0 ia (by omega) ?_
        repeat (first | refine zIxb 0 ?_ | refine zIxb 1 ?_ | refine gG ?_ | refine zN1 (fun hlen => ?_) | refine zN2 (fun hlen => ?_) | refine zAl (fun _ => ?_) | refine zBx (fun _ => ?_) | refine zAp (fun _ => ?_))
        exact ⟨k + 1, hk', by omega, x_wkd 0 ⟨rfl, by rw [hT1]; rfl, trivial⟩ rfl (by repeat (first | exact ag_refl | refine ag_upd rfl ?_ | refine ag_at rfl rfl ?_))⟩
      · have de : decide (b = a) = false := decide_eq_false e
        rw [if_neg e] at hsn
        subst hsn
        generalize Lib.itoa a = ia at *
        generalize Lib.itoa b = ib at *
        repeat (first | refine gG ?_ | refine zN1 (fun hlen => ?_) | refine zN2 (fun hlen => ?_) | refine zAl (fun _ => ?_))
        refine zIx (k) (hk') ?_
        repeat (first | refine gG ?_ | refine zN1 (fun hlen => ?_) | refine zN2 (fun hlen => ?_) | refine zAl (fun _ => ?_))
        refine zEl (hat) (rgTs_len _) ?_
        repeat (first | refine zIxb 0 ?_ | refine zIxb 1 ?_ | refine gG ?_ | refine zN1 (fun hlen => ?_) | refine zN2 (fun hlen => ?_) | refine zAl (fun _ => ?_) | refine zBx (fun _ => ?_) | refine zAp (fun _ => ?_))
        refine zCall (ha) ?_
        rintro _ rfl
        repeat (first | refine zIxb 0 ?_ | refine zIxb 1 ?_ | refine gG ?_ | refine zN1 (fun hlen => ?_) | refine zN2 (fun hlen => ?_) | refine zAl (fun _ => ?_) | refine zBx (fun _ => ?_) | refine zAp (fun _ => ?_))
        refine zCatb T0 ia (by omega) ?_
        repeat (first | refine zIxb 0 ?_ | refine zIxb 1 ?_ | refine gG ?_ | refine zN1 (fun hlen => ?_) | refine zN2 (fun hlen => ?_) | refine zAl (fun _ => ?_) | refine zBx (fun _ => ?_) | refine zAp (fun _ => ?_))
        refine zCall (hb) ?_
        rintro _ rfl
        repeat (first | refine zIxb 0 ?_ | refine zIxb 1 ?_ | refine gG ?_ | refine zN1 (fun hlen => ?_) | refine zN2 (fun hlen => ?_) | refine zAl (fun _ => ?_) | refine zBx (fun _ => ?_) | refine zAp (fun _ => ?_))
        refine zCatb [45] ib (by simp; omega) ?_
        repeat (first | refine zIxb 0 ?_ | refine zIxb 1 ?_ | refine gG ?_ | refine zN1 (fun hlen => ?_) | refine zN2 (fun hlen => ?_) | refine zAl (fun _ => ?_) | refine zBx (fun _ => ?_) | refine zAp (fun _ => ?_))
        refine zCatb (T0 ++ ia) ([45] ++ ib) (by simp; omega) ?_
        repeat (first | refine zIxb 0 ?_ | refine zIxb 1 ?_ | refine gG ?_ | refine zN1 (fun hlen => ?_) | refine zN2 (fun hlen => ?_) | refine zAl (fun _ => ?_) | refine zBx (fun _ => ?_) | refine zAp (fun _ => ?_))
        exact ⟨k + 1, hk', by omega, x_wkd 0 ⟨rfl, by rw [hT1]; simp only [List.append_assoc]; rfl, trivial⟩ rfl (by repeat (first | exact ag_refl | refine ag_upd rfl ?_ | refine ag_at rfl rfl ?_))⟩
    · have k0 : 0 < k := by have := of_decide_eq_true d0; omega
      rw [if_pos k0] at hsn
      by_cases e : b = a
      · have de : decide (b = a) = true := decide_eq_true e
        rw [if_pos e, List.append_nil] at hsn
        subst hsn
        clear hb lb
        generalize Lib.itoa a = ia at *
        repeat (first | refine gG ?_ | refine zN1 (fun hlen => ?_) | refine zN2 (fun hlen => ?_) | refine zAl (fun _ => ?_))
        refine zIx (k) (hk') ?_
        repeat (first | refine gG ?_ | refine zN1 (fun hlen => ?_) | refine zN2 (fun hlen => ?_) | refine zAl (fun _ => ?_))
        refine zEl (hat) (rgTs_len _) ?_
        repeat (first | refine zIxb 0 ?_ | refine zIxb 1 ?_ | refine gG ?_ | refine zN1 (fun hlen => ?_) | refine zN2 (fun hlen => ?_) | refine zAl (fun _ => ?_) | refine zBx (fun _ => ?_) | refine zAp (fun _ => ?_))
        refine zCatb T0 [44] (by simp; omega) ?_
        repeat (first | refine zIxb 0 ?_ | refine zIxb 1 ?_ | refine gG ?_ | refine zN1 (fun hlen => ?_) | refine zN2 (fun hlen => ?_) | refine zAl (fun _ => ?_) | refine zBx (fun _ => ?_) | refine zAp (fun _ => ?_))
        refine zCall (ha) ?_
        rintro _ rfl
        repeat (first | refine zIxb 0 ?_ | refine zIxb 1 ?_ | refine gG ?_ | refine zN1 (fun hlen => ?_) | refine zN2 (fun hlen => ?_) | refine zAl (fun _ => ?_) | refine zBx (fun _ => ?_) | refine zAp (fun _ => ?_))
        refine zCatb (T0 ++ [44]) ia (by simp; omega) ?_
        repeat (first | refine zIxb 0 ?_ | refine zIxb 1 ?_ | refine gG ?_ | refine zN1 (fun hlen => ?_) | refine zN2 (fun hlen => ?_) | refine zAl (fun _ => ?_) | refine zBx (fun _ => ?_) | refine zAp (fun _ => ?_))
        exact ⟨k + 1, hk', by omega, x_wkd 0 ⟨rfl, by rw [hT1]; simp only [List.append_assoc]; rfl, trivial⟩ rfl (by repeat (first | exact ag_refl | refine ag_upd rfl ?_ | refine ag_at rfl rfl ?_))⟩
      · have de : decide (b = a) = false := decide_eq_false e
        rw [if_neg e] at hsn
        subst hsn
        generalize Lib.itoa a = ia at *
        generalize Lib.itoa b = ib at *
        repeat (first | refine gG ?_ | refine zN1 (fun hlen => ?_) | refine zN2 (fun hlen => ?_) | refine zAl (fun _ => ?_))
        refine zIx (k) (hk') ?_
        repeat (first | refine gG ?_ | refine zN1 (fun hlen => ?_) | refine zN2 (fun hlen => ?_) | refine zAl (fun _ => ?_))
        refine zEl (hat) (rgTs_len _) ?_
        repeat (first | refine zIxb 0 ?_ | refine zIxb 1 ?_ | refine gG ?_ | refine zN1 (fun hlen => ?_) | refine zN2 (fun hlen => ?_) | refine zAl (fun _ => ?_) | refine zBx (fun _ => ?_) | refine zAp (fun _ => ?_))
        refine zCatb T0 [44] (by simp; omega) ?_
        repeat (first | refine zIxb 0 ?_ | refine zIxb 1 ?_ | refine gG ?_ | refine zN1 (fun hlen => ?_) | refine zN2 (fun hlen => ?_) | refine zAl (fun _ => ?_) | refine zBx (fun _ => ?_) | refine zAp (fun _ => ?_))
        refine zCall (ha) ?_
        rintro _ rfl
        repeat (first | refine zIxb 0 ?_ | refine zIxb 1 ?_ | refine gG ?_ | refine zN1 (fun hlen => ?_) | refine zN2 (fun hlen => ?_) | refine zAl (fun _ => ?_) | refine zBx (fun _ => ?_) | refine zAp (fun _ => ?_))
        refine zCatb (T0 ++ [44]) ia (by simp; omega) ?_
        repeat (first | refine zIxb 0 ?_ | refine zIxb 1 ?_ | refine gG ?_ | refine zN1 (fun hlen => ?_) | refine zN2 (fun hlen => ?_) | refine zAl (fun _ => ?_) | refine zBx (fun _ => ?_) | refine zAp (fun _ => ?_))
        refine zCall (hb) ?_
        rintro _ rfl
        repeat (first | refine zIxb 0 ?_ | refine zIxb 1 ?_ | refine gG ?_ | refine zN1 (fun hlen => ?_) | refine zN2 (fun hlen => ?_) | refine zAl (fun _ => ?_) | refine zBx (fun _ => ?_) | refine zAp (fun _ => ?_))
        refine zCatb [45] ib (by simp; omega) ?_
        repeat (first | refine zIxb 0 ?_ | refine zIxb 1 ?_ | refine gG ?_ | refine zN1 (fun hlen => ?_) | refine zN2 (fun hlen => ?_) | refine zAl (fun _ => ?_) | refine zBx (fun _ => ?_) | refine zAp (fun _ => ?_))
        refine zCatb (T0 ++ [44] ++ ia) ([45] ++ ib) (by simp; omega) ?_
        repeat (first | refine zIxb 0 ?_ | refine zIxb 1 ?_ | refine gG ?_ | refine zN1 (fun hlen => ?_) | refine zN2 (fun hlen => ?_) | refine zAl (fun _ => ?_) | refine zBx (fun _ => ?_) | refine zAp (fun _ => ?_))
        exact ⟨k + 1, hk', by omega, x_wkd 0 ⟨rfl, by rw [hT1]; simp only [List.append_assoc]; rfl, trivial⟩ rfl (by repeat (first | exact ag_refl | refine ag_upd rfl ?_ | refine ag_at rfl rfl ?_))⟩
  have hk' : k = l.length := by have : ¬ k < l.length := by simpa using h
                                omega
  subst hk'
  clear h hk hn
  have hvt : vtTo l l.length = vtL l := by unfold vtTo; rw [List.take_length]
  rw [hvt]
  repeat (first | refine gG ?_ | refine zN1 (fun hlen => ?_) | refine zN2 (fun hlen => ?_) | refine zAl (fun _ => ?_))
  first | refine zR ?_ | refine zQ ?_
  rfl
end Go.Proofs.YtadlmkgeplnemaaDoor
