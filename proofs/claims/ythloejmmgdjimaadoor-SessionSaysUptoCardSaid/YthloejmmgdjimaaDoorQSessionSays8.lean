/-
  Texts of this proof, part 8: Yss Ab25 Ysg Ysh Yst.
-/
import Derived.Test.YthloejmmgdjimaaDoorQSessionSays7
import Derived.Lib.AppendStr
import Derived.Lib.AppendZerosOnto
import Derived.Lib.MinMax
import Derived.WideKeyEntry
namespace Go.Proofs.YthloejmmgdjimaaDoor
open Go.RowKit
@[reducible] def okC (f : Nat → Nat → Bool) : List AV := (okT f).map .c
theorem okC_len (f : Nat → Nat → Bool) : (okC f).length = 256 := by unfold okC; rw [List.length_map, okT_len]
theorem okC_get (f : Nat → Nat → Bool) {i k : Nat} (hi : i < 16) (hk : k < 16) {o : Nat} (ho : o = i * 16 + k) : (okC f)[o]? = some (.c (.lit (.bool (f i k)))) := by
  unfold okC
  rw [List.getElem?_map, okT_get f hi hk ho]
  rfl
theorem okC_set (f : Nat → Nat → Bool) {i k : Nat} (hk : k < 16) (v : Bool) {o : Nat} (ho : o = i * 16 + k) : (okC f).set o (.c (.lit (.bool v))) = okC (updF f i k v) := by
  subst ho
  unfold okC okT
  rw [← List.map_set]
  congr 1
  refine List.ext_getElem? fun n => ?_
  rw [List.getElem?_set]
  by_cases hn : i * 16 + k = n
  · subst hn
    rw [if_pos rfl]
    by_cases hl : i * 16 + k < 256
    · rw [if_pos (by simpa using hl), List.getElem?_map, List.getElem?_range hl]
      simp only [Option.map_some, updF]
      rw [if_pos (by omega)]
    · rw [if_neg (by simpa using hl), List.getElem?_eq_none (by simpa using hl)]
  · rw [if_neg hn, List.getElem?_map, List.getElem?_map]
    by_cases hl : n < 256
    · rw [List.getElem?_range hl]
      simp only [Option.map_some, updF]
      rw [if_neg (by omega)]
    · rw [List.getElem?_eq_none (by simpa using hl)]
      rfl
theorem okC_zero : okC (fun _ _ => false) = List.replicate 256 (.c (.lit (.bool false))) := by
  unfold okC okT
  rw [List.map_map]
  refine List.eq_replicate_iff.2 ⟨by simp, fun x hx => ?_⟩
  obtain ⟨n, _, rfl⟩ := List.mem_map.1 hx
  rfl
set_option maxRecDepth 100000 in
set_option maxHeartbeats 8000000 in
theorem below_af (a b : List Se) (ha : LOk a) (hb : LOk b) : AF Tryd.prog 16 [seRow a, seRow b] (· = .lit (.bool (subB a b))) := by
  have a16 := ha.n16
  have b16 := hb.n16
  refine af_enter tok Tryd.func16 Tryd.ntmps16 Tryd.results16 rfl (by kernel_rfl) rfl rfl fun F hX => ?_
  repeat (first | refine gG ?_ | refine zN1 (fun hlen => ?_) | refine zN2 (fun hlen => ?_) | refine zAl (fun _ => ?_))
  rename_i b5
  refine x_eq (hp' := [.box b5 68 (okC (fillF b.length 0 0))]) (by rw [fill_zero, okC_zero]; rfl) ?_
  refine x_loop [6, 7, 15, 16, 17, 18, 19, 20, 21, 22, 23, 24, 25, 26, 27, 28] (fun i : Nat => [(15, .c (iL (i : Nat)))]) (fun i => [.box b5 68 (okC (fillF b.length i 0))]) (fun i => i ≤ a.length) (fun i => a.length - i) 0 (Nat.zero_le _) ⟨rfl, trivial⟩ rfl ?_
  intro i hi
  repeat (first | refine gG ?_ | refine zN1 (fun hlen => ?_) | refine zN2 (fun hlen => ?_) | refine zAl (fun _ => ?_))
  refine x_cond rfl (fun h => ?_) (fun h => ?_)
  · have hi' : i < a.length := by simpa using h
    clear h
    repeat (first | refine gG ?_ | refine zN1 (fun hlen => ?_) | refine zN2 (fun hlen => ?_) | refine zAl (fun _ => ?_))
    refine x_loop [7, 20, 21, 22, 23, 24, 25, 26, 27] (fun k : Nat => [(20, .c (iL (k : Nat)))]) (fun k => [.box b5 68 (okC (fillF b.length i k))]) (fun k => k ≤ b.length) (fun k => b.length - k) 0 (Nat.zero_le _) ⟨rfl, trivial⟩ rfl ?_
    intro k hk
    repeat (first | refine gG ?_ | refine zN1 (fun hlen => ?_) | refine zN2 (fun hlen => ?_) | refine zAl (fun _ => ?_))
    refine x_cond rfl (fun h => ?_) (fun h => ?_)
    · have hk' : k < b.length := by simpa using h
      have hset := okC_set (fillF b.length i k) (i := i) (k := k) (by omega) true (o := 0 + i * 16 + k * 1) (by omega)
      rw [fill_set] at hset
      have hbd : 0 + i * 16 + k * 1 + 1 ≤ (okC (fillF b.length i k)).length := by rw [okC_len]; omega
      clear h
      repeat (first | refine gG ?_ | refine zN1 (fun hlen => ?_) | refine zN2 (fun hlen => ?_) | refine zAl (fun _ => ?_))
      refine zIxr i (show i < 16 by omega) ?_
      repeat (first | refine gG ?_ | refine zN1 (fun hlen => ?_) | refine zN2 (fun hlen => ?_) | refine zAl (fun _ => ?_))
      refine zIxr k (show k < 16 by omega) ?_
      repeat (first | refine gG ?_ | refine zN1 (fun hlen => ?_) | refine zN2 (fun hlen => ?_) | refine zAl (fun _ => ?_))
      refine zStB hset hbd ?_
      repeat (first | refine gG ?_ | refine zN1 (fun hlen => ?_) | refine zN2 (fun hlen => ?_) | refine zAl (fun _ => ?_))
      exact ⟨k + 1, hk', by omega, x_wkd 1 ⟨rfl, trivial⟩ rfl (by repeat (first | exact ag_refl | refine ag_upd rfl ?_ | refine ag_at rfl rfl ?_))⟩
    · have hk' : k = b.length := by have : ¬ k < b.length := by simpa using h
                                    omega
      subst hk'
      rw [fill_next]
      clear h
      repeat (first | refine gG ?_ | refine zN1 (fun hlen => ?_) | refine zN2 (fun hlen => ?_) | refine zAl (fun _ => ?_))
      exact ⟨i + 1, hi', by omega, x_wkd 1 ⟨rfl, trivial⟩ rfl (by repeat (first | exact ag_refl | refine ag_upd rfl ?_ | refine ag_at rfl rfl ?_))⟩
  have hie : i = a.length := by have : ¬ i < a.length := by simpa using h
                                omega
  subst hie
  clear h hi
  repeat (first | refine gG ?_ | refine zN1 (fun hlen => ?_) | refine zN2 (fun hlen => ?_) | refine zAl (fun _ => ?_))
  refine x_loop [8, 9, 10, 11, 12, 29, 30, 31, 32, 33, 34, 35, 36, 37, 38, 39, 40, 41, 42, 43, 44, 45, 46, 47, 48, 49, 50, 51, 52, 53, 54, 55, 56, 57, 58, 59, 60] (fun q : (Nat → Nat → Bool) × Bool => [(8, .c (.lit (.bool q.2)))]) (fun q => [.box b5 68 (okC q.1)]) (fun q => KeepF a b q.1 ∧ (q.2 = false → ∃ f0, PInv a b f0 q.1 false a.length 0)) (fun q => 2 * cntF q.1 + (if q.2 = true then 1 else 0)) (fillF b.length a.length 0, true) ⟨fill_keep a b, fun h => by cases h⟩ ⟨rfl, trivial⟩ rfl ?_
  rintro ⟨f, g⟩ ⟨hK, hno⟩
  dsimp only at hK hno ⊢
  repeat (first | refine gG ?_ | refine zN1 (fun hlen => ?_) | refine zN2 (fun hlen => ?_) | refine zAl (fun _ => ?_))
  refine x_cond rfl (fun h => ?_) (fun h => ?_)
  rotate_left
  · obtain ⟨f0, hP⟩ := hno h
    have he := pinv_end ha hb hP
    rw [he]
    clear hno hK hP he
    repeat (first | refine gG ?_ | refine zN1 (fun hlen => ?_) | refine zN2 (fun hlen => ?_) | refine zAl (fun _ => ?_))
    refine zIxr 0 (show 0 < 16 by decide) ?_
    repeat (first | refine gG ?_ | refine zN1 (fun hlen => ?_) | refine zN2 (fun hlen => ?_) | refine zAl (fun _ => ?_))
    refine zIxr 0 (show 0 < 16 by decide) ?_
    repeat (first | refine gG ?_ | refine zN1 (fun hlen => ?_) | refine zN2 (fun hlen => ?_) | refine zAl (fun _ => ?_))
    first | refine zR ?_ | refine zQ ?_
    rfl
  subst h
  clear hno
  repeat (first | refine gG ?_ | refine zN1 (fun hlen => ?_) | refine zN2 (fun hlen => ?_) | refine zAl (fun _ => ?_))
  refine x_loop [8, 9, 10, 11, 12, 32, 33, 34, 35, 36, 37, 38, 39, 40, 41, 42, 43, 44, 45, 46, 47, 48, 49, 50, 51, 52, 53, 54, 55, 56, 57, 58, 59, 60] (fun q : Nat × (Nat → Nat → Bool) × Bool => [(32, .c (iL (q.1 : Nat))), (8, .c (.lit (.bool q.2.2)))]) (fun q => [.box b5 68 (okC q.2.1)]) (fun q => q.1 ≤ a.length ∧ PInv a b f q.2.1 q.2.2 q.1 0) (fun q => a.length - q.1) (0, f, false) ⟨Nat.zero_le _, pinv0 hK⟩ ⟨rfl, rfl, trivial⟩ rfl ?_
  rintro ⟨i, f1, g1⟩ ⟨hi, hP⟩
  dsimp only at hi hP ⊢
  repeat (first | refine gG ?_ | refine zN1 (fun hlen => ?_) | refine zN2 (fun hlen => ?_) | refine zAl (fun _ => ?_))
  refine x_cond rfl (fun h => ?_) (fun h => ?_)
  · have hi' : i < a.length := by simpa using h
    obtain ⟨sx, hx⟩ := nth hi'
    have ex := stAt_nat hx
    have hxt := se_at hx
    have sox := ha.st _ (List.mem_of_getElem? hx)
    clear h hx hK
    obtain ⟨kx, bx⟩ := sx
    repeat (first | refine gG ?_ | refine zN1 (fun hlen => ?_) | refine zN2 (fun hlen => ?_) | refine zAl (fun _ => ?_))
    refine zIx i hi' ?_
    repeat (first | refine gG ?_ | refine zN1 (fun hlen => ?_) | refine zN2 (fun hlen => ?_) | refine zAl (fun _ => ?_))
    refine zEl hxt rfl ?_
    repeat (first | refine gG ?_ | refine zN1 (fun hlen => ?_) | refine zN2 (fun hlen => ?_) | refine zAl (fun _ => ?_))
    rename_i b10
    refine x_loop [8, 11, 12, 39, 40, 41, 42, 43, 44, 45, 46, 47, 48, 49, 50, 51, 52, 53, 54, 55, 56, 57, 58, 59] (fun q : Nat × (Nat → Nat → Bool) × Bool => [(39, .c (iL (q.1 : Nat))), (8, .c (.lit (.bool q.2.2)))]) (fun q => [.box b5 68 (okC q.2.1), .box b10 59 [.c (iL kx), .c (.row bx.length 2 (bx.flatMap prTs))]]) (fun q => q.1 ≤ b.length ∧ PInv a b f q.2.1 q.2.2 i q.1) (fun q => b.length - q.1) (0, f1, g1) ⟨Nat.zero_le _, hP⟩ ⟨rfl, rfl, trivial⟩ rfl ?_
    clear hP
    rintro ⟨k, f2, g2⟩ ⟨hk, hP⟩
    dsimp only at hk hP ⊢
    repeat (first | refine gG ?_ | refine zN1 (fun hlen => ?_) | refine zN2 (fun hlen => ?_) | refine zAl (fun _ => ?_))
    refine x_cond rfl (fun h => ?_) (fun h => ?_)
    · have hk' : k < b.length := by simpa using h
      obtain ⟨sy, hy⟩ := nth hk'
      have ey := stAt_nat hy
      have hyt := se_at hy
      have soy := hb.st _ (List.mem_of_getElem? hy)
      have hget := okC_get f2 (i := i) (k := k) (by omega) (by omega) (o := 0 + i * 16 + k * 1) (by omega)
      have hset := okC_set f2 (i := i) (k := k) (by omega) false (o := 0 + i * 16 + k * 1) (by omega)
      have hbd : 0 + i * 16 + k * 1 + 1 ≤ (okC f2).length := by rw [okC_len]; omega
      have hgo := goesOn_af f2 _ _ _ _ sox soy (by omega) (by omega)
      have hstay := pinv_stay hP
      have hstr := pinv_strike ha hb hP hi' hk'
      rw [ex, ey] at hstay hstr
      obtain ⟨ky, by_⟩ := sy
      clear h hy hP ey soy
      cases hf : f2 i k
      · rw [hf] at hget hstay
        replace hstay := hstay (fun h => by cases h)
        clear hstr hset hgo
        repeat (first | refine gG ?_ | refine zN1 (fun hlen => ?_) | refine zN2 (fun hlen => ?_) | refine zAl (fun _ => ?_))
        refine zIx k hk' ?_
        repeat (first | refine gG ?_ | refine zN1 (fun hlen => ?_) | refine zN2 (fun hlen => ?_) | refine zAl (fun _ => ?_))
        refine zEl hyt rfl ?_
        repeat (first | refine gG ?_ | refine zN1 (fun hlen => ?_) | refine zN2 (fun hlen => ?_) | refine zAl (fun _ => ?_))
        refine zIxr i (show i < 16 by omega) ?_
        repeat (first | refine gG ?_ | refine zN1 (fun hlen => ?_) | refine zN2 (fun hlen => ?_) | refine zAl (fun _ => ?_))
        refine zIxr k (show k < 16 by omega) ?_
        repeat (first | refine gG ?_ | refine zN1 (fun hlen => ?_) | refine zN2 (fun hlen => ?_) | refine zAl (fun _ => ?_))
        refine zL1 ?_ (hv := hget)
        repeat (first | refine gG ?_ | refine zN1 (fun hlen => ?_) | refine zN2 (fun hlen => ?_) | refine zAl (fun _ => ?_))
        exact ⟨(k + 1, f2, g2), ⟨hk', hstay⟩, by dsimp only; omega, x_wkd 2 ⟨rfl, rfl, trivial⟩ rfl (by repeat (first | exact ag_refl | refine ag_upd rfl ?_ | refine ag_at rfl rfl ?_))⟩
      · rw [hf] at hget
        replace hstr := hstr hf
        cases hg : goR f2 ⟨kx, bx⟩ ⟨ky, by_⟩
        · rw [hg] at hgo
          replace hstr := hstr hg
          clear hstay hf
          repeat (first | refine gG ?_ | refine zN1 (fun hlen => ?_) | refine zN2 (fun hlen => ?_) | refine zAl (fun _ => ?_))
          refine zIx k hk' ?_
          repeat (first | refine gG ?_ | refine zN1 (fun hlen => ?_) | refine zN2 (fun hlen => ?_) | refine zAl (fun _ => ?_))
          refine zEl hyt rfl ?_
          repeat (first | refine gG ?_ | refine zN1 (fun hlen => ?_) | refine zN2 (fun hlen => ?_) | refine zAl (fun _ => ?_))
          refine zIxr i (show i < 16 by omega) ?_
          repeat (first | refine gG ?_ | refine zN1 (fun hlen => ?_) | refine zN2 (fun hlen => ?_) | refine zAl (fun _ => ?_))
          refine zIxr k (show k < 16 by omega) ?_
          repeat (first | refine gG ?_ | refine zN1 (fun hlen => ?_) | refine zN2 (fun hlen => ?_) | refine zAl (fun _ => ?_))
          refine zL1 ?_ (hv := hget)
          repeat (first | refine gG ?_ | refine zN1 (fun hlen => ?_) | refine zN2 (fun hlen => ?_) | refine zAl (fun _ => ?_))
          refine zPeek hgo ?_ (hx := rz2s_cons (rz2_ptr rfl rzs_self) (rz2s_cons (rz2_agg (rz_agg (rzs_cons rz_c (rzs_cons rz_c rzs_nil)))) (rz2s_cons (rz2_agg (rz_agg (rzs_cons rz_c (rzs_cons rz_c rzs_nil)))) rz2s_nil)))
          rintro _ rfl
          refine ⟨rfl, ?_⟩
          repeat (first | refine gG ?_ | refine zN1 (fun hlen => ?_) | refine zN2 (fun hlen => ?_) | refine zAl (fun _ => ?_))
          refine zIxr i (show i < 16 by omega) ?_
          repeat (first | refine gG ?_ | refine zN1 (fun hlen => ?_) | refine zN2 (fun hlen => ?_) | refine zAl (fun _ => ?_))
          refine zIxr k (show k < 16 by omega) ?_
          repeat (first | refine gG ?_ | refine zN1 (fun hlen => ?_) | refine zN2 (fun hlen => ?_) | refine zAl (fun _ => ?_))
          refine zStB hset hbd ?_
          repeat (first | refine gG ?_ | refine zN1 (fun hlen => ?_) | refine zN2 (fun hlen => ?_) | refine zAl (fun _ => ?_))
          exact ⟨(k + 1, updF f2 i k false, true), ⟨hk', hstr⟩, by dsimp only; omega, x_wkd 2 ⟨rfl, rfl, trivial⟩ rfl (by repeat (first | exact ag_refl | refine ag_upd rfl ?_ | refine ag_at rfl rfl ?_))⟩
        · rw [hg] at hgo hstay
          replace hstay := hstay (fun _ => rfl)
          clear hstr hset hf
          repeat (first | refine gG ?_ | refine zN1 (fun hlen => ?_) | refine zN2 (fun hlen => ?_) | refine zAl (fun _ => ?_))
          refine zIx k hk' ?_
          repeat (first | refine gG ?_ | refine zN1 (fun hlen => ?_) | refine zN2 (fun hlen => ?_) | refine zAl (fun _ => ?_))
          refine zEl hyt rfl ?_
          repeat (first | refine gG ?_ | refine zN1 (fun hlen => ?_) | refine zN2 (fun hlen => ?_) | refine zAl (fun _ => ?_))
          refine zIxr i (show i < 16 by omega) ?_
          repeat (first | refine gG ?_ | refine zN1 (fun hlen => ?_) | refine zN2 (fun hlen => ?_) | refine zAl (fun _ => ?_))
          refine zIxr k (show k < 16 by omega) ?_
          repeat (first | refine gG ?_ | refine zN1 (fun hlen => ?_) | refine zN2 (fun hlen => ?_) | refine zAl (fun _ => ?_))
          refine zL1 ?_ (hv := hget)
          repeat (first | refine gG ?_ | refine zN1 (fun hlen => ?_) | refine zN2 (fun hlen => ?_) | refine zAl (fun _ => ?_))
          refine zPeek hgo ?_ (hx := rz2s_cons (rz2_ptr rfl rzs_self) (rz2s_cons (rz2_agg (rz_agg (rzs_cons rz_c (rzs_cons rz_c rzs_nil)))) (rz2s_cons (rz2_agg (rz_agg (rzs_cons rz_c (rzs_cons rz_c rzs_nil)))) rz2s_nil)))
          rintro _ rfl
          refine ⟨rfl, ?_⟩
          repeat (first | refine gG ?_ | refine zN1 (fun hlen => ?_) | refine zN2 (fun hlen => ?_) | refine zAl (fun _ => ?_))
          exact ⟨(k + 1, f2, g2), ⟨hk', hstay⟩, by dsimp only; omega, x_wkd 2 ⟨rfl, rfl, trivial⟩ rfl (by repeat (first | exact ag_refl | refine ag_upd rfl ?_ | refine ag_at rfl rfl ?_))⟩
    · have hk' : k = b.length := by have : ¬ k < b.length := by simpa using h
                                    omega
      subst hk'
      have hrow := pinv_row hP
      clear h hP
      repeat (first | refine gG ?_ | refine zN1 (fun hlen => ?_) | refine zN2 (fun hlen => ?_) | refine zAl (fun _ => ?_))
      exact ⟨(i + 1, f2, g2), ⟨hi', hrow⟩, by dsimp only; omega, x_wkd 1 ⟨rfl, rfl, trivial⟩ rfl (by repeat (first | exact ag_refl | refine ag_upd rfl ?_ | refine ag_at rfl rfl ?_))⟩
  · have hi' : i = a.length := by have : ¬ i < a.length := by simpa using h
                                  omega
    subst hi'
    clear h hK
    repeat (first | refine gG ?_ | refine zN1 (fun hlen => ?_) | refine zN2 (fun hlen => ?_) | refine zAl (fun _ => ?_))
    refine ⟨(f1, g1), ⟨hP.keep, fun e => ⟨f, by have e' : g1 = false := e; subst e'; exact hP⟩⟩, ?_, x_wkd 1 ⟨rfl, trivial⟩ rfl (by repeat (first | exact ag_refl | refine ag_upd rfl ?_ | refine ag_at rfl rfl ?_))⟩
    dsimp only
    cases g1 with
    | false => rw [(hP.no rfl).1]; simp
    | true => have := hP.yes rfl; simp; omega
end Go.Proofs.YthloejmmgdjimaaDoor
namespace Go.Proofs.YthloejmmgdjimaaDoor
open Go.RowKit
section
variable {F : Frm} {τ : Nat → AV} {hp : List Blk} {N : Nat}
theorem wk_fzc (i j : Nat) {q b : Nat} {v : Value} {e t : TypeId} {sz n : Nat} {ts : List T} {cs cs' : List AV} {hp' : List Blk} (hi : hp[i]? = some (.box b t cs)) (hj : cs[j]? = some (.own q v)) (hq : hp[q]? = some (.row v e sz n ts)) (hiq : Nat.beq i q = false) (hc : evl (cs.set j (.c (.row n sz ts))) = some cs') (hf : evl ((hp.set q .dead).set i (.box b t cs')) = some hp') : Wk F ⟨τ, hp, N⟩ ⟨τ, hp', N⟩ := by
  intro M a w hr
  have hne : i ≠ q := fun e => by rw [e, Nat.beq_refl] at hiq; cases hiq
  obtain ⟨h1, h2⟩ := heap_frz hr.heap hq
  have hi' : (hp.set q .dead)[i]? = some (.box b t cs) := by rw [List.getElem?_set_ne (Ne.symm hne)]; exact hi
  have hlt : i < (hp.set q .dead).length := (List.getElem?_eq_some_iff.1 hi').1
  have h3 : HeapOk F (frB M v.ownBlock w) ((hp.set q .dead).set i (.box b t cs')) w := by
    refine h1.step i rfl rfl rfl (Nat.le_refl _) (fun _ _ _ => rfl) (Ext.refl _ _) (fun p v h1 h2 => by rw [h2] at h1; cases h1) (fun m hm => by rw [List.getElem?_set_ne (Ne.symm hm)]) (fun x' hx' => ?_)
    rw [List.getElem?_set_self hlt] at hx'
    obtain rfl : Blk.box b t cs' = x' := by injection hx'
    obtain ⟨xs, g1, g2, g3⟩ := h1.at_ i _ hi'
    refine ⟨⟨xs, g1, ?_, g3⟩, fun b' hb' => .inl ⟨_, hi', hb'⟩⟩
    rw [evl_eq hc]
    obtain ⟨x, hx, hxr⟩ := g2.get hj
    simp only [RA] at hxr
    have hjl : j < xs.length := (List.getElem?_eq_some_iff.1 hx).1
    have hxj : xs[j] = x := by rw [List.getElem?_eq_getElem hjl] at hx; injection hx
    have : RAs (frB M v.ownBlock w) (cs.set j (.c (.row n sz ts))) (xs.set j x) := RAs.set j g2 (by simp only [RA]; rw [hxr.1]; exact h2)
    rwa [show xs.set j x = xs from by rw [← hxj]; exact List.set_getElem_self hjl] at this
  exact ⟨_, fun k => RA.mono (frB_sub _ _ _) _ _ (hr.tmps k), hr.size, hr.defers, by rw [evl_eq hf]; exact h3⟩
theorem x_fzc {P : Program} {Q : Exit → AS → Prop} {c : Code} (i j : Nat) {q b : Nat} {v : Value} {e t : TypeId} {sz n : Nat} {ts : List T} {cs cs' : List AV} {hp' : List Blk} (h : AC P F c Q ⟨τ, hp', N⟩) (hi : hp[i]? = some (.box b t cs) := by exact rfl) (hj : cs[j]? = some (.own q v) := by exact rfl) (hq : hp[q]? = some (.row v e sz n ts) := by exact rfl) (hiq : Nat.beq i q = false := by exact rfl) (hc : evl (cs.set j (.c (.row n sz ts))) = some cs' := by exact rfl) (hf : evl ((hp.set q .dead).set i (.box b t cs')) = some hp' := by exact rfl) : AC P F c Q ⟨τ, hp, N⟩ :=
  ac_wk (wk_fzc i j hi hj hq hiq hc hf) h
end
end Go.Proofs.YthloejmmgdjimaaDoor
namespace Go.Proofs.YthloejmmgdjimaaDoor
open Go.RowKit
set_option maxRecDepth 100000 in
set_option maxHeartbeats 8000000 in
theorem sessErr_af (l : List Se) : AF Tryd.prog 10 [seRow l] (· = iL (seErr l)) := by
  unfold seErr
  by_cases c1 : l.length < 1
  · have d1 : decide (((l.length : Nat) : Int) < 1) = true := decide_eq_true (by omega)
    rw [if_pos (.inl c1)]
    refine af_enter tok Tryd.func10 Tryd.ntmps10 Tryd.results10 rfl (by kernel_rfl) rfl rfl fun F hX => ?_
    repeat (first | refine gG ?_ | refine zN1 (fun hlen => ?_) | refine zN2 (fun hlen => ?_) | refine zAl (fun _ => ?_))
    first | refine zR ?_ | refine zQ ?_
    rfl
  have d1 : decide (((l.length : Nat) : Int) < 1) = false := decide_eq_false (by omega)
  by_cases c2 : 16 < l.length
  · have d2 : decide (((l.length : Nat) : Int) > 16) = true := decide_eq_true (by omega)
    rw [if_pos (.inr c2)]
    refine af_enter tok Tryd.func10 Tryd.ntmps10 Tryd.results10 rfl (by kernel_rfl) rfl rfl fun F hX => ?_
    repeat (first | refine gG ?_ | refine zN1 (fun hlen => ?_) | refine zN2 (fun hlen => ?_) | refine zAl (fun _ => ?_))
    first | refine zR ?_ | refine zQ ?_
    rfl
  have d2 : decide (((l.length : Nat) : Int) > 16) = false := decide_eq_false (by omega)
  rw [if_neg (by omega)]
  generalize hE : seErrL (l.length : Nat) l = e
  refine af_enter tok Tryd.func10 Tryd.ntmps10 Tryd.results10 rfl (by kernel_rfl) rfl rfl fun F hX => ?_
  repeat (first | refine gG ?_ | refine zN1 (fun hlen => ?_) | refine zN2 (fun hlen => ?_) | refine zAl (fun _ => ?_))
  refine x_loop [2, 4, 5, 7, 18, 19, 20, 21, 22, 23, 24, 25, 26, 27, 28, 29, 30, 31, 32, 33, 34, 35, 36, 37, 38, 39, 40, 41, 42, 43, 44, 45, 46, 47, 48, 49, 50, 51, 52, 53, 54, 55, 56, 57, 58, 59, 60, 61, 62, 63, 64, 65, 66, 67, 68, 69, 70, 71, 72, 73, 74, 75, 76, 77, 78, 79, 80, 81, 82, 83, 84, 85, 86, 87, 88, 89, 90] (fun k : Nat => [(18, .c (iL (k : Nat)))]) (fun _ => []) (fun k => k ≤ l.length ∧ seErrL (l.length : Nat) (l.drop k) = e) (fun k => l.length - k) 0 ⟨Nat.zero_le _, hE⟩ ⟨rfl, trivial⟩ rfl ?_
  rintro k ⟨hk, he⟩
  repeat (first | refine gG ?_ | refine zN1 (fun hlen => ?_) | refine zN2 (fun hlen => ?_) | refine zAl (fun _ => ?_))
  refine x_cond rfl (fun h => ?_) (fun h => ?_)
  rotate_left
  · have hk' : k = l.length := by have : ¬ k < l.length := by simpa using h
                                  omega
    subst hk'
    rw [List.drop_length] at he
    repeat (first | refine gG ?_ | refine zN1 (fun hlen => ?_) | refine zN2 (fun hlen => ?_) | refine zAl (fun _ => ?_))
    first | refine zR ?_ | refine zQ ?_
    rw [← he]; rfl
  have hk' : k < l.length := by simpa using h
  obtain ⟨s, hs⟩ := nth hk'
  have ht := se_at hs
  rw [se_drop hs] at he
  clear h hE
  obtain ⟨kd, br⟩ := s
  obtain ⟨z, hz⟩ : ∃ z, stErr (l.length : Nat) ⟨kd, br⟩ = z := ⟨_, rfl⟩
  rw [hz] at he
  unfold stErr at hz
  dsimp only at hz
  repeat (first | refine gG ?_ | refine zN1 (fun hlen => ?_) | refine zN2 (fun hlen => ?_) | refine zAl (fun _ => ?_))
  refine zIx k hk' ?_
  repeat (first | refine gG ?_ | refine zN1 (fun hlen => ?_) | refine zN2 (fun hlen => ?_) | refine zAl (fun _ => ?_))
  refine zEl ht rfl ?_
  by_cases a1 : kd < 1
  · have b1 : decide (kd < 1) = true := decide_eq_true a1
    rw [if_pos (.inl a1)] at hz
    rw [← hz, if_pos (by decide)] at he
    repeat (first | refine gG ?_ | refine zN1 (fun hlen => ?_) | refine zN2 (fun hlen => ?_) | refine zAl (fun _ => ?_))
    first | refine zR ?_ | refine zQ ?_
    rw [← he]; rfl
  have b1 : decide (kd < 1) = false := decide_eq_false a1
  by_cases a2 : 3 < kd
  · have b2 : decide (kd > 3) = true := decide_eq_true a2
    rw [if_pos (.inr (.inl a2))] at hz
    rw [← hz, if_pos (by decide)] at he
    repeat (first | refine gG ?_ | refine zN1 (fun hlen => ?_) | refine zN2 (fun hlen => ?_) | refine zAl (fun _ => ?_))
    first | refine zR ?_ | refine zQ ?_
    rw [← he]; rfl
  have b2 : decide (kd > 3) = false := decide_eq_false a2
  by_cases a3 : decide (kd = 3) ≠ decide (br.length = 0)
  · rw [if_pos (.inr (.inr a3))] at hz
    rw [← hz, if_pos (by decide)] at he
    have hh : (decide (kd = 3) = true ∧ decide (((br.length : Nat) : Int) > 0) = true) ∨ (decide (kd = 3) = false ∧ decide (kd < 3) = true ∧ decide (((br.length : Nat) : Int) = 0) = true) := by
      by_cases e3 : kd = 3
      · refine .inl ⟨decide_eq_true e3, decide_eq_true ?_⟩
        rw [decide_eq_true e3] at a3
        have : ¬ br.length = 0 := fun h => a3 (by rw [decide_eq_true h])
        omega
      · refine .inr ⟨decide_eq_false e3, decide_eq_true (by omega), decide_eq_true ?_⟩
        rw [decide_eq_false e3] at a3
        by_cases h : br.length = 0
        · omega
        · exact absurd (by rw [decide_eq_false h]) a3
    clear a3
    rcases hh with ⟨b3, b4⟩ | ⟨b3, b4, b5⟩
    · repeat (first | refine gG ?_ | refine zN1 (fun hlen => ?_) | refine zN2 (fun hlen => ?_) | refine zAl (fun _ => ?_))
      first | refine zR ?_ | refine zQ ?_
      rw [← he]; rfl
    · repeat (first | refine gG ?_ | refine zN1 (fun hlen => ?_) | refine zN2 (fun hlen => ?_) | refine zAl (fun _ => ?_))
      first | refine zR ?_ | refine zQ ?_
      rw [← he]; rfl
  rw [if_neg (fun h => by rcases h with h | h | h <;> contradiction)] at hz
  have hh : (decide (kd = 3) = true ∧ decide (((br.length : Nat) : Int) > 0) = false ∧ decide (kd < 3) = false) ∨ (decide (kd = 3) = false ∧ decide (kd < 3) = true ∧ decide (((br.length : Nat) : Int) = 0) = false) := by
    have a4 := Classical.not_not.1 a3
    by_cases e3 : kd = 3
    · rw [decide_eq_true e3] at a4
      have := of_decide_eq_true a4.symm
      exact .inl ⟨decide_eq_true e3, decide_eq_false (by omega), decide_eq_false (by omega)⟩
    · rw [decide_eq_false e3] at a4
      have := of_decide_eq_false a4.symm
      exact .inr ⟨decide_eq_false e3, decide_eq_true (by omega), decide_eq_false (by omega)⟩
  clear a3
  rcases hh with ⟨b3, b4, b5⟩ | ⟨b3, b4, b5⟩
  all_goals
    by_cases c4 : 6 < br.length
    · have d4 : decide (((br.length : Nat) : Int) > 6) = true := decide_eq_true (by omega)
      rw [if_pos c4] at hz
      rw [← hz, if_pos (by decide)] at he
      repeat (first | refine gG ?_ | refine zN1 (fun hlen => ?_) | refine zN2 (fun hlen => ?_) | refine zAl (fun _ => ?_))
      first | refine zR ?_ | refine zQ ?_
      rw [← he]; rfl
    have d4 : decide (((br.length : Nat) : Int) > 6) = false := decide_eq_false (by omega)
    rw [if_neg c4] at hz
    repeat (first | refine gG ?_ | refine zN1 (fun hlen => ?_) | refine zN2 (fun hlen => ?_) | refine zAl (fun _ => ?_))
    refine x_frz0 4 (Se.ts ⟨kd, br⟩) ?_
    generalize hE : brErr (l.length : Nat) (-1) br = e' at hz
    subst hz
    refine x_loop [2, 5, 7, 59, 60, 61, 62, 63, 64, 65, 66, 67, 68, 69, 70, 71, 72, 73, 74, 75, 76, 77, 78, 79, 80, 81, 82, 83, 84, 85, 86, 87, 88, 89] (fun q : Nat × Int => [(5, .c (iL q.2)), (59, .c (iL (q.1 : Nat)))]) (fun _ => []) (fun q => q.1 ≤ br.length ∧ brErr (l.length : Nat) q.2 (br.drop q.1) = e') (fun q => br.length - q.1) (0, -1) ⟨Nat.zero_le _, hE⟩ ⟨rfl, rfl, trivial⟩ rfl ?_
    rintro ⟨j, last⟩ ⟨hj, he2⟩
    dsimp only at hj he2 ⊢
    repeat (first | refine gG ?_ | refine zN1 (fun hlen => ?_) | refine zN2 (fun hlen => ?_) | refine zAl (fun _ => ?_))
    refine x_cond rfl (fun h => ?_) (fun h => ?_)
    · have hj' : j < br.length := by simpa using h
      obtain ⟨⟨m, x⟩, hp⟩ := nth hj'
      have htp := pr_at hp
      rw [br_drop hp] at he2
      clear h hE ht
      repeat (first | refine gG ?_ | refine zN1 (fun hlen => ?_) | refine zN2 (fun hlen => ?_) | refine zAl (fun _ => ?_))
      refine zIx j hj' ?_
      repeat (first | refine gG ?_ | refine zN1 (fun hlen => ?_) | refine zN2 (fun hlen => ?_) | refine zAl (fun _ => ?_))
      refine zEl htp rfl ?_
      by_cases e1 : m < 0
      · have f1 : decide (m < 0) = true := decide_eq_true e1
        rw [if_pos (.inl e1)] at he2
        rw [← he2, if_pos (by decide)] at he
        repeat (first | refine zIxb 0 ?_ | refine zIxb 1 ?_ | refine zIxb 2 ?_ | refine gG ?_ | refine zN1 (fun hlen => ?_) | refine zN2 (fun hlen => ?_) | refine zAl (fun _ => ?_) | refine zBf ?_ | refine zAp (fun _ => ?_))
        first | refine zR ?_ | refine zQ ?_
        rw [← he]; rfl
      have f1 : decide (m < 0) = false := decide_eq_false e1
      by_cases e2 : 20 < m
      · have f2 : decide (m > 20) = true := decide_eq_true e2
        rw [if_pos (.inr (.inl e2))] at he2
        rw [← he2, if_pos (by decide)] at he
        repeat (first | refine zIxb 0 ?_ | refine zIxb 1 ?_ | refine zIxb 2 ?_ | refine gG ?_ | refine zN1 (fun hlen => ?_) | refine zN2 (fun hlen => ?_) | refine zAl (fun _ => ?_) | refine zBf ?_ | refine zAp (fun _ => ?_))
        first | refine zR ?_ | refine zQ ?_
        rw [← he]; rfl
      have f2 : decide (m > 20) = false := decide_eq_false e2
      by_cases e3 : x < 0
      · have f3 : decide (x < 0) = true := decide_eq_true e3
        rw [if_pos (.inr (.inr (.inl e3)))] at he2
        rw [← he2, if_pos (by decide)] at he
        repeat (first | refine zIxb 0 ?_ | refine zIxb 1 ?_ | refine zIxb 2 ?_ | refine gG ?_ | refine zN1 (fun hlen => ?_) | refine zN2 (fun hlen => ?_) | refine zAl (fun _ => ?_) | refine zBf ?_ | refine zAp (fun _ => ?_))
        first | refine zR ?_ | refine zQ ?_
        rw [← he]; rfl
      have f3 : decide (x < 0) = false := decide_eq_false e3
      by_cases e4 : (l.length : Nat) ≤ x
      · have f4 : decide (x ≥ ((l.length : Nat) : Int)) = true := decide_eq_true e4
        rw [if_pos (.inr (.inr (.inr e4)))] at he2
        rw [← he2, if_pos (by decide)] at he
        repeat (first | refine zIxb 0 ?_ | refine zIxb 1 ?_ | refine zIxb 2 ?_ | refine gG ?_ | refine zN1 (fun hlen => ?_) | refine zN2 (fun hlen => ?_) | refine zAl (fun _ => ?_) | refine zBf ?_ | refine zAp (fun _ => ?_))
        first | refine zR ?_ | refine zQ ?_
        rw [← he]; rfl
      have f4 : decide (x ≥ ((l.length : Nat) : Int)) = false := decide_eq_false e4
      rw [if_neg (by omega)] at he2
      by_cases e5 : m ≤ last
      · have f5 : decide (m ≤ last) = true := decide_eq_true e5
        rw [if_pos e5] at he2
        rw [← he2, if_pos (by decide)] at he
        repeat (first | refine zIxb 0 ?_ | refine zIxb 1 ?_ | refine zIxb 2 ?_ | refine gG ?_ | refine zN1 (fun hlen => ?_) | refine zN2 (fun hlen => ?_) | refine zAl (fun _ => ?_) | refine zBf ?_ | refine zAp (fun _ => ?_))
        first | refine zR ?_ | refine zQ ?_
        rw [← he]; rfl
      have f5 : decide (m ≤ last) = false := decide_eq_false e5
      rw [if_neg e5] at he2
      repeat (first | refine zIxb 0 ?_ | refine zIxb 1 ?_ | refine zIxb 2 ?_ | refine gG ?_ | refine zN1 (fun hlen => ?_) | refine zN2 (fun hlen => ?_) | refine zAl (fun _ => ?_) | refine zBf ?_ | refine zAp (fun _ => ?_))
      exact ⟨(j + 1, m), ⟨hj', he2⟩, by dsimp only; omega, x_wkd 0 ⟨rfl, rfl, trivial⟩ rfl (by repeat (first | exact ag_refl | refine ag_upd rfl ?_ | refine ag_at rfl rfl ?_))⟩
    · have hj' : j = br.length := by have : ¬ j < br.length := by simpa using h
                                     omega
      subst hj'
      rw [List.drop_length] at he2
      rw [← he2, if_neg (fun h => h rfl)] at he
      clear ht hE
      repeat (first | refine gG ?_ | refine zN1 (fun hlen => ?_) | refine zN2 (fun hlen => ?_) | refine zAl (fun _ => ?_))
      exact ⟨k + 1, ⟨hk', he⟩, by omega, x_wkd 0 ⟨rfl, trivial⟩ rfl (by repeat (first | exact ag_refl | refine ag_upd rfl ?_ | refine ag_at rfl rfl ?_))⟩
end Go.Proofs.YthloejmmgdjimaaDoor
namespace Go.Proofs.YthloejmmgdjimaaDoor
open Go.RowKit
def dualS (s : Se) : Se := ⟨if s.kind = 1 then 2 else if s.kind = 2 then 1 else s.kind, s.br⟩
theorem flat_snoc2 {α : Type} (f : α → List T) {l : List α} {k : Nat} {a : α} (h : l[k]? = some a) : (l.take k).flatMap f ++ f a = (l.take (k + 1)).flatMap f := by
  obtain ⟨h1, rfl⟩ := List.getElem?_eq_some_iff.1 h
  rw [List.take_succ_eq_append_getElem h1, List.flatMap_append]
  simp
set_option maxRecDepth 100000 in
set_option maxHeartbeats 4000000 in
theorem machine_af (l : List Se) (hl : l.length ≤ 1048576) (hb : ∀ s ∈ l, s.br.length ≤ 1048576) : AF Tryd.prog 9 [seRow l] (· = seRow l) := by
  refine af_enter tok Tryd.func9 Tryd.ntmps9 Tryd.results9 rfl (by kernel_rfl) rfl rfl fun F hX => ?_
  repeat (first | refine gG ?_ | refine zN1 (fun hlen => ?_) | refine zN2 (fun hlen => ?_) | refine zAl (fun _ => ?_) | refine zAp (fun _ => ?_))
  refine x_own 3 59 2 rfl rfl rfl rfl rfl ?_
  refine x_loop [3, 5, 6, 8, 11, 12, 13, 14, 15, 16, 17, 18, 19, 20, 21, 22, 23, 24, 25, 26, 27, 28, 29, 30, 31, 32, 33, 34, 35, 36, 37, 38, 39, 40] (fun q : Nat × Value => [(11, .c (iL (q.1 : Nat))), (3, .own 0 q.2)]) (fun q => [.row q.2 59 2 q.1 ((l.take q.1).flatMap Se.ts)]) (fun q => q.1 ≤ l.length) (fun q => l.length - q.1) (0, .slice none 0 0) (Nat.zero_le _) ⟨rfl, rfl, trivial⟩ rfl ?_
  rintro ⟨k, v⟩ hk
  dsimp only at hk ⊢
  repeat (first | refine gG ?_ | refine zN1 (fun hlen => ?_) | refine zN2 (fun hlen => ?_) | refine zAl (fun _ => ?_) | refine zAp (fun _ => ?_))
  refine x_cond rfl (fun h => ?_) (fun h => ?_)
  · have hk' : k < l.length := by simpa using h
    obtain ⟨⟨kd, br⟩, hs⟩ := nth hk'
    have hbr := hb _ (List.mem_of_getElem? hs)
    have ht := se_at hs
    have hsn := flat_snoc2 Se.ts hs
    dsimp only at hbr
    clear h hs
    repeat (first | refine gG ?_ | refine zN1 (fun hlen => ?_) | refine zN2 (fun hlen => ?_) | refine zAl (fun _ => ?_) | refine zAp (fun _ => ?_))
    refine zIx k hk' ?_
    repeat (first | refine gG ?_ | refine zN1 (fun hlen => ?_) | refine zN2 (fun hlen => ?_) | refine zAl (fun _ => ?_) | refine zAp (fun _ => ?_))
    refine zEl ht rfl ?_
    repeat (first | refine gG ?_ | refine zN1 (fun hlen => ?_) | refine zN2 (fun hlen => ?_) | refine zAl (fun _ => ?_) | refine zAp (fun _ => ?_))
    refine x_own_cell 2 1 40 2 rfl rfl rfl rfl rfl rfl ?_
    rename_i b5 b6
    refine x_loop [8, 21, 22, 23, 24, 25, 26, 27, 28, 29, 30, 31, 32, 33, 34, 35] (fun q : Nat × Value => [(21, .c (iL (q.1 : Nat)))]) (fun q => [.row v 59 2 k ((l.take k).flatMap Se.ts), .box b5 46 [.c (iL kd), .c (.row br.length 2 (br.flatMap prTs))], .box b6 59 [.c (iL kd), .own 3 q.2], .row q.2 40 2 q.1 ((br.take q.1).flatMap prTs)]) (fun q => q.1 ≤ br.length) (fun q => br.length - q.1) (0, .slice none 0 0) (Nat.zero_le _) ⟨rfl, trivial⟩ rfl ?_
    rintro ⟨j, u⟩ hj
    dsimp only at hj ⊢
    repeat (first | refine gG ?_ | refine zN1 (fun hlen => ?_) | refine zN2 (fun hlen => ?_) | refine zAl (fun _ => ?_) | refine zAp (fun _ => ?_))
    refine x_cond rfl (fun h => ?_) (fun h => ?_)
    · have hj' : j < br.length := by simpa using h
      obtain ⟨⟨m, x⟩, hp⟩ := nth hj'
      have htp := pr_at hp
      have hsp := flat_snoc2 prTs hp
      clear h hp
      repeat (first | refine gG ?_ | refine zN1 (fun hlen => ?_) | refine zN2 (fun hlen => ?_) | refine zAl (fun _ => ?_) | refine zAp (fun _ => ?_))
      refine zIx j hj' ?_
      repeat (first | refine gG ?_ | refine zN1 (fun hlen => ?_) | refine zN2 (fun hlen => ?_) | refine zAl (fun _ => ?_) | refine zAp (fun _ => ?_))
      refine zEl htp rfl ?_
      repeat (first | refine gG ?_ | refine zN1 (fun hlen => ?_) | refine zN2 (fun hlen => ?_) | refine zAl (fun _ => ?_) | refine zAp (fun _ => ?_))
      refine zBda ?_
      repeat (first | refine gG ?_ | refine zN1 (fun hlen => ?_) | refine zN2 (fun hlen => ?_) | refine zAl (fun _ => ?_) | refine zAp (fun _ => ?_))
      exact ⟨(j + 1, _), hj', by dsimp only; omega, x_wkd 4 ⟨rfl, trivial⟩ (by dsimp only; rw [← hsp]; rfl) (by repeat (first | exact ag_refl | refine ag_upd rfl ?_ | refine ag_at rfl rfl ?_))⟩
    · have hj' : j = br.length := by have : ¬ j < br.length := by simpa using h
                                     omega
      subst hj'
      rw [List.take_length]
      refine x_fzc 2 1 ?_
      repeat (first | refine gG ?_ | refine zN1 (fun hlen => ?_) | refine zN2 (fun hlen => ?_) | refine zAl (fun _ => ?_) | refine zAp (fun _ => ?_))
      exact ⟨(k + 1, _), hk', by dsimp only; omega, x_wkd 1 ⟨rfl, rfl, trivial⟩ (by dsimp only; rw [← hsn]; rfl) (by repeat (first | exact ag_refl | refine ag_upd rfl ?_ | refine ag_at rfl rfl ?_))⟩
  · have hk' : k = l.length := by have : ¬ k < l.length := by simpa using h
                                  omega
    subst hk'
    repeat (first | refine gG ?_ | refine zN1 (fun hlen => ?_) | refine zN2 (fun hlen => ?_) | refine zAl (fun _ => ?_) | refine zAp (fun _ => ?_))
    first | refine zR ?_ | refine zQ ?_
    rw [List.take_length]
    rfl
set_option maxRecDepth 100000 in
set_option maxHeartbeats 1000000 in
theorem cloneBr_af (l : List (Int × Int)) (hl : l.length ≤ 1048576) : AF Tryd.prog 17 [.row l.length 2 (l.flatMap prTs)] (· = .row l.length 2 (l.flatMap prTs)) := by
  refine af_enter tok Tryd.func17 Tryd.ntmps17 Tryd.results17 rfl (by kernel_rfl) rfl rfl fun F hX => ?_
  repeat (first | refine gG ?_ | refine zAp (fun _ => ?_))
  refine zNs (fun b hb => ?_)
  cases b
  · repeat (first | refine gX ?_ | refine zAp (fun _ => ?_))
    refine zBo (fun _ => ?_)
    repeat (first | refine gG ?_ | refine zAp (fun _ => ?_))
    first | refine zR ?_ | refine zQ ?_
    simp only [outT, List.nil_append, Nat.zero_add]
  · have h0 := hb rfl
    have : l = [] := List.eq_nil_of_length_eq_zero h0
    subst this
    repeat (first | refine gG ?_ | refine zAp (fun _ => ?_))
    first | refine zR (ts := [.row 0 2 []]) ?_ | refine zQ (ts := [.row 0 2 []]) ?_
    rfl
theorem map_at {l : List Se} {k : Nat} {s : Se} (h : l[k]? = some s) : (l.map dualS)[k]? = some (dualS s) := by rw [List.getElem?_map, h]; rfl
set_option maxRecDepth 100000 in
set_option maxHeartbeats 4000000 in
theorem dual_af (l : List Se) : AF Tryd.prog 4 [seRow l] (· = .tup [if seErr l = 0 then seRow (l.map dualS) else .lit (.slice none 0 0), iL (seErr l)]) := by
  have hc := check_af l
  by_cases he : seErr l = 0
  rotate_left
  · rw [if_neg he]
    generalize seErr l = e at *
    have d1 : (!decide (e = 0)) = true := by rw [decide_eq_false he]; rfl
    refine af_enter tok Tryd.func4 Tryd.ntmps4 Tryd.results4 rfl (by kernel_rfl) rfl rfl fun F hX => ?_
    repeat (first | refine gG ?_ | refine zN1 (fun hlen => ?_) | refine zN2 (fun hlen => ?_) | refine zAl (fun _ => ?_) | refine zAp (fun _ => ?_))
    refine zCall (hc) ?_
    rintro _ rfl
    repeat (first | refine gG ?_ | refine zN1 (fun hlen => ?_) | refine zN2 (fun hlen => ?_) | refine zAl (fun _ => ?_) | refine zAp (fun _ => ?_))
    first | refine zR ?_ | refine zQ ?_
    rfl
  have hl := lok_of he
  rw [if_pos he, he]
  rw [he] at hc
  have h16 := hl.n16
  refine af_enter tok Tryd.func4 Tryd.ntmps4 Tryd.results4 rfl (by kernel_rfl) rfl rfl fun F hX => ?_
  repeat (first | refine gG ?_ | refine zN1 (fun hlen => ?_) | refine zN2 (fun hlen => ?_) | refine zAl (fun _ => ?_) | refine zAp (fun _ => ?_))
  refine zCall (hc) ?_
  rintro _ rfl
  repeat (first | refine gG ?_ | refine zN1 (fun hlen => ?_) | refine zN2 (fun hlen => ?_) | refine zAl (fun _ => ?_) | refine zAp (fun _ => ?_))
  refine x_own 5 46 2 rfl rfl rfl rfl rfl ?_
  refine x_loop [5, 7, 15, 16, 17, 18, 19, 20, 21, 22, 23, 24, 25, 26, 27, 28, 29, 30, 31, 32, 33, 34, 35] (fun q : Nat × Value => [(15, .c (iL (q.1 : Nat))), (5, .own 0 q.2)]) (fun q => [.row q.2 46 2 q.1 (((l.map dualS).take q.1).flatMap Se.ts)]) (fun q => q.1 ≤ l.length) (fun q => l.length - q.1) (0, .slice none 0 0) (Nat.zero_le _) ⟨rfl, rfl, trivial⟩ rfl ?_
  rintro ⟨k, v⟩ hk
  dsimp only at hk ⊢
  repeat (first | refine gG ?_ | refine zN1 (fun hlen => ?_) | refine zN2 (fun hlen => ?_) | refine zAl (fun _ => ?_) | refine zAp (fun _ => ?_))
  refine x_cond rfl (fun h => ?_) (fun h => ?_)
  · have hk' : k < l.length := by simpa using h
    obtain ⟨⟨kd, br⟩, hs⟩ := nth hk'
    have hbr := (hl.st _ (List.mem_of_getElem? hs)).len
    have ht := se_at hs
    have hsn := flat_snoc2 Se.ts (map_at hs)
    dsimp only at hbr
    have hcl := cloneBr_af br (by omega)
    clear h hs hc he
    cases d1 : decide (kd = 1)
    · cases d2 : decide (kd = 2)
      · have e1 : dualS ⟨kd, br⟩ = ⟨kd, br⟩ := by unfold dualS; dsimp only; rw [if_neg (of_decide_eq_false d1), if_neg (of_decide_eq_false d2)]
        rw [e1] at hsn
        repeat (first | refine gG ?_ | refine zN1 (fun hlen => ?_) | refine zN2 (fun hlen => ?_) | refine zAl (fun _ => ?_) | refine zAp (fun _ => ?_))
        refine zIx k hk' ?_
        repeat (first | refine gG ?_ | refine zN1 (fun hlen => ?_) | refine zN2 (fun hlen => ?_) | refine zAl (fun _ => ?_) | refine zAp (fun _ => ?_))
        refine zEl ht rfl ?_
        repeat (first | refine gG ?_ | refine zN1 (fun hlen => ?_) | refine zN2 (fun hlen => ?_) | refine zAl (fun _ => ?_) | refine zAp (fun _ => ?_))
        refine zCall (hcl) ?_
        rintro _ rfl
        repeat (first | refine gG ?_ | refine zN1 (fun hlen => ?_) | refine zN2 (fun hlen => ?_) | refine zAl (fun _ => ?_) | refine zAp (fun _ => ?_))
        exact ⟨(k + 1, _), hk', by dsimp only; omega, x_wkd 1 ⟨rfl, rfl, trivial⟩ (by dsimp only; rw [← hsn]; rfl) (by repeat (first | exact ag_refl | refine ag_upd rfl ?_ | refine ag_at rfl rfl ?_))⟩
      · have e1 : dualS ⟨kd, br⟩ = ⟨1, br⟩ := by unfold dualS; dsimp only; rw [if_neg (of_decide_eq_false d1), if_pos (of_decide_eq_true d2)]
        rw [e1] at hsn
        repeat (first | refine gG ?_ | refine zN1 (fun hlen => ?_) | refine zN2 (fun hlen => ?_) | refine zAl (fun _ => ?_) | refine zAp (fun _ => ?_))
        refine zIx k hk' ?_
        repeat (first | refine gG ?_ | refine zN1 (fun hlen => ?_) | refine zN2 (fun hlen => ?_) | refine zAl (fun _ => ?_) | refine zAp (fun _ => ?_))
        refine zEl ht rfl ?_
        repeat (first | refine gG ?_ | refine zN1 (fun hlen => ?_) | refine zN2 (fun hlen => ?_) | refine zAl (fun _ => ?_) | refine zAp (fun _ => ?_))
        refine zCall (hcl) ?_
        rintro _ rfl
        repeat (first | refine gG ?_ | refine zN1 (fun hlen => ?_) | refine zN2 (fun hlen => ?_) | refine zAl (fun _ => ?_) | refine zAp (fun _ => ?_))
        exact ⟨(k + 1, _), hk', by dsimp only; omega, x_wkd 1 ⟨rfl, rfl, trivial⟩ (by dsimp only; rw [← hsn]; rfl) (by repeat (first | exact ag_refl | refine ag_upd rfl ?_ | refine ag_at rfl rfl ?_))⟩
    · have e1 : dualS ⟨kd, br⟩ = ⟨2, br⟩ := by unfold dualS; dsimp only; rw [if_pos (of_decide_eq_true d1)]
      rw [e1] at hsn
      repeat (first | refine gG ?_ | refine zN1 (fun hlen => ?_) | refine zN2 (fun hlen => ?_) | refine zAl (fun _ => ?_) | refine zAp (fun _ => ?_))
      refine zIx k hk' ?_
      repeat (first | refine gG ?_ | refine zN1 (fun hlen => ?_) | refine zN2 (fun hlen => ?_) | refine zAl (fun _ => ?_) | refine zAp (fun _ => ?_))
      refine zEl ht rfl ?_
      repeat (first | refine gG ?_ | refine zN1 (fun hlen => ?_) | refine zN2 (fun hlen => ?_) | refine zAl (fun _ => ?_) | refine zAp (fun _ => ?_))
      refine zCall (hcl) ?_
      rintro _ rfl
      repeat (first | refine gG ?_ | refine zN1 (fun hlen => ?_) | refine zN2 (fun hlen => ?_) | refine zAl (fun _ => ?_) | refine zAp (fun _ => ?_))
      exact ⟨(k + 1, _), hk', by dsimp only; omega, x_wkd 1 ⟨rfl, rfl, trivial⟩ (by dsimp only; rw [← hsn]; rfl) (by repeat (first | exact ag_refl | refine ag_upd rfl ?_ | refine ag_at rfl rfl ?_))⟩
  · have hk' : k = l.length := by have : ¬ k < l.length := by simpa using h
                                  omega
    subst hk'
    repeat (first | refine gG ?_ | refine zN1 (fun hlen => ?_) | refine zN2 (fun hlen => ?_) | refine zAl (fun _ => ?_) | refine zAp (fun _ => ?_))
    first | refine zR ?_ | refine zQ ?_
    rw [← List.length_map dualS, List.take_length]
    rfl
set_option maxRecDepth 100000 in
set_option maxHeartbeats 4000000 in
theorem turned_af (l : List Se) (hl : LOk l) : AF Tryd.prog 13 [seRow l] (· = seRow (l.map dualS)) := by
  have h16 := hl.n16
  refine af_enter tok Tryd.func13 Tryd.ntmps13 Tryd.results13 rfl (by kernel_rfl) rfl rfl fun F hX => ?_
  repeat (first | refine gG ?_ | refine zN1 (fun hlen => ?_) | refine zN2 (fun hlen => ?_) | refine zAl (fun _ => ?_) | refine zAp (fun _ => ?_))
  refine x_own 3 59 2 rfl rfl rfl rfl rfl ?_
  refine x_loop [3, 5, 8, 9, 10, 11, 12, 13, 14, 15, 16, 17, 18, 19, 20, 21, 22, 23] (fun q : Nat × Value => [(8, .c (iL (q.1 : Nat))), (3, .own 0 q.2)]) (fun q => [.row q.2 59 2 q.1 (((l.map dualS).take q.1).flatMap Se.ts)]) (fun q => q.1 ≤ l.length) (fun q => l.length - q.1) (0, .slice none 0 0) (Nat.zero_le _) ⟨rfl, rfl, trivial⟩ rfl ?_
  rintro ⟨k, v⟩ hk
  dsimp only at hk ⊢
  repeat (first | refine gG ?_ | refine zN1 (fun hlen => ?_) | refine zN2 (fun hlen => ?_) | refine zAl (fun _ => ?_) | refine zAp (fun _ => ?_))
  refine x_cond rfl (fun h => ?_) (fun h => ?_)
  · have hk' : k < l.length := by simpa using h
    obtain ⟨⟨kd, br⟩, hs⟩ := nth hk'
    have hso := hl.st _ (List.mem_of_getElem? hs)
    have hk1 := hso.k1
    have hk3 := hso.k3
    have ht := se_at hs
    have hsn := flat_snoc2 Se.ts (map_at hs)
    dsimp only at hk1 hk3
    obtain ⟨kn, rfl⟩ : ∃ n : Nat, kd = (n : Int) := ⟨kd.toNat, by omega⟩
    have hd : [iL 0, iL 2, iL 1, iL 3][kn * 1]? = some (iL (dualS ⟨(kn : Nat), br⟩).kind) := by
      have : kn = 1 ∨ kn = 2 ∨ kn = 3 := by omega
      rcases this with rfl | rfl | rfl <;> rfl
    have hn4 : kn < 4 := by omega
    have hdb : dualS ⟨(kn : Nat), br⟩ = ⟨(dualS ⟨(kn : Nat), br⟩).kind, br⟩ := rfl
    generalize (dualS ⟨(kn : Nat), br⟩).kind = z at *
    rw [hdb] at hsn
    clear h hs hso hdb
    repeat (first | refine gG ?_ | refine zN1 (fun hlen => ?_) | refine zN2 (fun hlen => ?_) | refine zAl (fun _ => ?_) | refine zAp (fun _ => ?_))
    refine zIx k hk' ?_
    repeat (first | refine gG ?_ | refine zN1 (fun hlen => ?_) | refine zN2 (fun hlen => ?_) | refine zAl (fun _ => ?_) | refine zAp (fun _ => ?_))
    refine zEl ht rfl ?_
    repeat (first | refine gG ?_ | refine zN1 (fun hlen => ?_) | refine zN2 (fun hlen => ?_) | refine zAl (fun _ => ?_) | refine zAp (fun _ => ?_))
    refine ac_draw [0, 0, 0, 1, 1, 1, 0, 1, 0, 0, 2, 1] [0, 1, 2, 3, 4, 5, 6, 7, 8, 9, 10, 11] (by kernel_rfl) (by kernel_rfl) ?_
    refine gW ?_
    apply w_q; (focus exact rfl); (focus exact rfl); focus (intro _; (refine zIx (n := 4) kn hn4 ?_); exact det_refl)
    apply w_q; (focus exact rfl); (focus exact rfl); focus (intro _; (refine zEl1 hd ?_); exact det_refl)
    refine gW ?_
    apply w_l; (focus exact rfl); (focus exact rfl); (refine zAp (fun _ => ?_))
    refine gW ?_
    refine w_nil ?_
    repeat (first | refine gG ?_ | refine zN1 (fun hlen => ?_) | refine zN2 (fun hlen => ?_) | refine zAl (fun _ => ?_) | refine zAp (fun _ => ?_))
    exact ⟨(k + 1, _), hk', by dsimp only; omega, x_wkd 1 ⟨rfl, rfl, trivial⟩ (by dsimp only; rw [← hsn]; rfl) (by repeat (first | exact ag_refl | refine ag_upd rfl ?_ | refine ag_at rfl rfl ?_))⟩
  · have hk' : k = l.length := by have : ¬ k < l.length := by simpa using h
                                  omega
    subst hk'
    repeat (first | refine gG ?_ | refine zN1 (fun hlen => ?_) | refine zN2 (fun hlen => ?_) | refine zAl (fun _ => ?_) | refine zAp (fun _ => ?_))
    first | refine zR ?_ | refine zQ ?_
    rw [← List.length_map dualS, List.take_length]
    rfl
end Go.Proofs.YthloejmmgdjimaaDoor
namespace Go.Proofs.YthloejmmgdjimaaDoor
open Go.RowKit
set_option maxRecDepth 100000 in
set_option maxHeartbeats 1000000 in
theorem moved1_af (i k : Int) : AF Tryd.prog 36 [iL k, .pin [iL i] 0] (· = iL (atS i k)) := by
  unfold atS
  cases d1 : decide (k = 0)
  · rw [if_neg (of_decide_eq_false d1)]
    cases d2 : decide (k = i)
    · rw [if_neg (of_decide_eq_false d2)]
      refine af_enter tok Tryd.func36 Tryd.ntmps36 Tryd.results36 rfl (by kernel_rfl) rfl rfl fun F hX => ?_
      repeat (first | refine gG ?_)
      first | refine zR ?_ | refine zQ ?_
      rfl
    · rw [if_pos (of_decide_eq_true d2)]
      refine af_enter tok Tryd.func36 Tryd.ntmps36 Tryd.results36 rfl (by kernel_rfl) rfl rfl fun F hX => ?_
      repeat (first | refine gG ?_)
      first | refine zR ?_ | refine zQ ?_
      rfl
  · rw [if_pos (of_decide_eq_true d1)]
    refine af_enter tok Tryd.func36 Tryd.ntmps36 Tryd.results36 rfl (by kernel_rfl) rfl rfl fun F hX => ?_
    repeat (first | refine gG ?_)
    first | refine zR ?_ | refine zQ ?_
    rfl
def hsTs : Option Se → List T
  | none => [iL 0, .lit (.slice none 0 0)]
  | some s => Se.ts s
theorem hs_len (s : Option Se) : (hsTs s).length = 2 := by cases s <;> rfl
theorem spl_hs : ∀ (l : List (Option Se)) (j : Nat) (s : Se), spl (l.flatMap hsTs) (j * 2) (Se.ts s) = (l.set j (some s)).flatMap hsTs
  | [], j, s => by simp [spl]
  | a :: l, 0, s => by cases a <;> rfl
  | a :: l, j + 1, s => by
    have h := spl_hs l j s
    rw [List.flatMap_cons, List.set_cons_succ, List.flatMap_cons, ← h, Nat.add_mul, Nat.one_mul]
    cases a <;> rfl
theorem hs_flat_len (l : List (Option Se)) : (l.flatMap hsTs).length = l.length * 2 := by
  induction l with
  | nil => rfl
  | cons a l ih => rw [List.flatMap_cons, List.length_append, hs_len, ih, List.length_cons]; omega
/-- what is there after so many states -/
def mvL (l : List Se) (i : Int) (k : Nat) : List (Option Se) := (List.range l.length).map fun j => if atS i (j : Nat) < (k : Nat) then some (mapS (atS i) (stAt l (atS i (j : Nat)))) else none
theorem mv_len (l : List Se) (i : Int) (k : Nat) : (mvL l i k).length = l.length := by simp [mvL]
theorem mv_zero {l : List Se} {i : Int} (hi : inR l i) : mvL l i 0 = List.replicate l.length none := by
  refine List.eq_replicate_iff.2 ⟨mv_len _ _ _, fun x hx => ?_⟩
  obtain ⟨j, hj, rfl⟩ := List.mem_map.1 hx
  have := (atS_nn (k := (j : Nat)) hi.1).2 (by omega)
  rw [if_neg (by omega)]
theorem mv_step {l : List Se} {i : Int} (hi : inR l i) {k j0 : Nat} (hj : atS i (k : Nat) = (j0 : Nat)) : (mvL l i k).set j0 (some (mapS (atS i) (stAt l (k : Nat)))) = mvL l i (k + 1) := by
  unfold mvL
  refine List.ext_getElem? fun n => ?_
  have hj2 : atS i (j0 : Nat) = (k : Nat) := by rw [← hj, atS_at]
  rw [List.getElem?_set]
  by_cases hn : j0 = n
  · subst hn
    rw [if_pos rfl]
    by_cases hl : j0 < l.length
    · rw [if_pos (by simpa using hl), List.getElem?_map, List.getElem?_range hl]
      simp only [Option.map_some]
      rw [hj2, if_pos (by omega)]
    · rw [if_neg (by simpa using hl), List.getElem?_eq_none (by simpa using hl)]
  · rw [if_neg hn, List.getElem?_map, List.getElem?_map]
    by_cases hl : n < l.length
    · rw [List.getElem?_range hl]
      simp only [Option.map_some]
      have hne : atS i (n : Nat) ≠ (k : Nat) := fun e => hn (by
        have := congrArg (atS i) e
        rw [atS_at, hj] at this
        omega)
      congr 1
      by_cases h1 : atS i (n : Nat) < (k : Nat)
      · rw [if_pos h1, if_pos (by omega)]
      · rw [if_neg h1, if_neg (by omega)]
    · rw [List.getElem?_eq_none (by simpa using hl)]
      rfl
theorem mv_end {l : List Se} {i : Int} (hi : inR l i) : (mvL l i l.length).flatMap hsTs = (movedS l i).flatMap Se.ts := by
  have h : mvL l i l.length = (movedS l i).map some := by
    unfold mvL movedS
    rw [List.map_map]
    refine List.map_congr_left fun j hj => ?_
    have := List.mem_range.1 hj
    have := atS_lt (k := (j : Nat)) hi.1 hi.2 (by omega)
    rw [if_pos (by omega)]
    rfl
  rw [h, List.flatMap_map]
  rfl
theorem rep_hs (n : Nat) : (List.replicate n [iL 0, T.lit (.slice none 0 0)]).flatten = (List.replicate n (none : Option Se)).flatMap hsTs := by
  induction n with
  | zero => rfl
  | succ n ih => rw [List.replicate_succ, List.replicate_succ, List.flatten_cons, ih, List.flatMap_cons]; rfl
set_option maxRecDepth 100000 in
set_option maxHeartbeats 8000000 in
theorem moved_af (l : List Se) (hl : LOk l) (i : Int) (hi : inR l i) : AF Tryd.prog 25 [seRow l, iL i] (· = seRow (movedS l i)) := by
  have h16 := hl.n16
  have hat := fun k => moved1_af i k
  refine af_enter tok Tryd.func25 Tryd.ntmps25 Tryd.results25 rfl (by kernel_rfl) rfl rfl fun F hX => ?_
  repeat (first | refine gG ?_ | refine zN1 (fun hlen => ?_) | refine zN2 (fun hlen => ?_) | refine zAl (fun _ => ?_) | refine zBf ?_ | refine zAp (fun _ => ?_))
  refine zMk l.length [iL 0, .lit (.slice none 0 0)] (fun v6 => ?_)
  repeat (first | refine gG ?_ | refine zN1 (fun hlen => ?_) | refine zN2 (fun hlen => ?_) | refine zAl (fun _ => ?_) | refine zBx (fun _ => ?_) | refine zAp (fun _ => ?_))
  refine x_eq (hp' := [.row v6 59 2 l.length ((mvL l i 0).flatMap hsTs)]) (by rw [mv_zero hi, ← rep_hs]) ?_
  refine x_loop [7, 8, 9, 11, 18, 19, 20, 21, 22, 23, 24, 25, 26, 27, 28, 29, 30, 31, 32, 33, 34, 35, 36, 37, 38, 39, 40, 41, 42, 43, 44, 45, 46, 47, 48, 49, 50, 51, 52] (fun k : Nat => [(18, .c (iL (k : Nat)))]) (fun k => [.row v6 59 2 l.length ((mvL l i k).flatMap hsTs)]) (fun k => k ≤ l.length) (fun k => l.length - k) 0 (Nat.zero_le _) ⟨rfl, trivial⟩ rfl ?_
  intro k hk
  repeat (first | refine gG ?_ | refine zN1 (fun hlen => ?_) | refine zN2 (fun hlen => ?_) | refine zAl (fun _ => ?_) | refine zBx (fun _ => ?_) | refine zAp (fun _ => ?_))
  refine x_cond rfl (fun h => ?_) (fun h => ?_)
  · have hk' : k < l.length := by simpa using h
    obtain ⟨s, hs⟩ := nth hk'
    have es := stAt_nat hs
    have hst := se_at hs
    have hlen6 := (hl.st _ (List.mem_of_getElem? hs)).len
    have n1 := (atS_nn (k := (k : Nat)) hi.1).2 (by omega)
    have n2 := atS_lt (k := (k : Nat)) hi.1 hi.2 (by omega)
    obtain ⟨j0, hj0⟩ : ∃ j : Nat, atS i (k : Nat) = (j : Int) := ⟨(atS i (k : Nat)).toNat, by omega⟩
    have hjn : j0 < l.length := by omega
    have hms := mv_step hi hj0
    rw [es] at hms
    have hck := hat (k : Nat)
    rw [hj0] at hck
    clear h hs es n1 n2 hj0
    obtain ⟨kd, br⟩ := s
    obtain ⟨mb, hmb⟩ : ∃ mb, mb = br.map fun z : Int × Int => (z.1, atS i z.2) := ⟨_, rfl⟩
    have hspl : spl ((mvL l i k).flatMap hsTs) (j0 * 2) (Se.ts ⟨kd, mb⟩) = (mvL l i (k + 1)).flatMap hsTs := by
      rw [hmb, ← hms]
      exact spl_hs (mvL l i k) j0 (mapS (atS i) ⟨kd, br⟩)
    have hml : mb.length = br.length := by rw [hmb, List.length_map]
    have hmz : ∀ {j : Nat} {z : Int × Int}, br[j]? = some z → mb[j]? = some (z.1, atS i z.2) := fun h => by rw [hmb, List.getElem?_map, h]; rfl
    clear hms hmb
    have hble : j0 * 2 + 2 ≤ ((mvL l i k).flatMap hsTs).length := by rw [hs_flat_len, mv_len]; omega
    dsimp only at hlen6
    repeat (first | refine gG ?_ | refine zN1 (fun hlen => ?_) | refine zN2 (fun hlen => ?_) | refine zAl (fun _ => ?_) | refine zBx (fun _ => ?_) | refine zAp (fun _ => ?_))
    refine zIx k hk' ?_
    repeat (first | refine gG ?_ | refine zN1 (fun hlen => ?_) | refine zN2 (fun hlen => ?_) | refine zAl (fun _ => ?_) | refine zBx (fun _ => ?_) | refine zAp (fun _ => ?_))
    refine zEl hst rfl ?_
    repeat (first | refine gG ?_ | refine zN1 (fun hlen => ?_) | refine zN2 (fun hlen => ?_) | refine zAl (fun _ => ?_) | refine zBx (fun _ => ?_) | refine zAp (fun _ => ?_))
    rename_i b8 b9
    refine x_own_cell 2 1 40 2 rfl rfl rfl rfl rfl rfl ?_
    refine x_loop [11, 29, 30, 31, 32, 33, 34, 35, 36, 37, 38, 39, 40, 41, 42, 43, 44, 45] (fun q : Nat × Value => [(29, .c (iL (q.1 : Nat)))]) (fun q => [.row v6 59 2 l.length ((mvL l i k).flatMap hsTs), .box b8 59 [.c (iL kd), .c (.row br.length 2 (br.flatMap prTs))], .box b9 59 [.c (iL kd), .own 3 q.2], .row q.2 40 2 q.1 ((mb.take q.1).flatMap prTs)]) (fun q => q.1 ≤ br.length) (fun q => br.length - q.1) (0, .slice none 0 0) (Nat.zero_le _) ⟨rfl, trivial⟩ rfl ?_
    rintro ⟨j, u⟩ hj
    dsimp only at hj ⊢
    repeat (first | refine gG ?_ | refine zN1 (fun hlen => ?_) | refine zN2 (fun hlen => ?_) | refine zAl (fun _ => ?_) | refine zBx (fun _ => ?_) | refine zAp (fun _ => ?_))
    refine x_cond rfl (fun h => ?_) (fun h => ?_)
    · have hj' : j < br.length := by simpa using h
      obtain ⟨⟨m, x⟩, hp⟩ := nth hj'
      have htp := pr_at hp
      have hsp := flat_snoc2 prTs (hmz hp)
      have hcx := hat x
      dsimp only at hsp
      generalize atS i x = y at *
      clear h hp hspl hck hat hmz
      repeat (first | refine gG ?_ | refine zN1 (fun hlen => ?_) | refine zN2 (fun hlen => ?_) | refine zAl (fun _ => ?_) | refine zBx (fun _ => ?_) | refine zAp (fun _ => ?_))
      refine zIx j hj' ?_
      repeat (first | refine gG ?_ | refine zN1 (fun hlen => ?_) | refine zN2 (fun hlen => ?_) | refine zAl (fun _ => ?_) | refine zBx (fun _ => ?_) | refine zAp (fun _ => ?_))
      refine zEl htp rfl ?_
      repeat (first | refine gG ?_ | refine zN1 (fun hlen => ?_) | refine zN2 (fun hlen => ?_) | refine zAl (fun _ => ?_) | refine zBx (fun _ => ?_) | refine zAp (fun _ => ?_))
      refine ac_draw [0, 1, 1, 1, 1, 1, 1, 1, 1, 1, 2, 0, 2] [0, 1, 2, 3, 4, 5, 6, 7, 8, 9, 10, 11, 12] (by kernel_rfl) (by kernel_rfl) ?_
      refine gW ?_
      apply w_q; (focus exact rfl); (focus exact rfl); focus (intro _; (refine zIxb 0 ?_); exact det_refl)
      refine gW ?_
      apply w_q; (focus exact rfl); (focus exact rfl); focus (intro _; (refine zIxb 1 ?_); exact det_refl)
      refine gW ?_
      apply w_q; (focus exact rfl); (focus exact rfl); focus (intro _; (refine zCall hcx ?_; rintro _ rfl); exact det_refl)
      apply w_q; (focus exact rfl); (focus exact rfl); focus (intro _; (refine zBda ?_); exact det_refl)
      refine gW ?_
      apply w_l; (focus exact rfl); (focus exact rfl); (refine zAp (fun _ => ?_))
      refine gW ?_
      apply w_l; (focus exact rfl); (focus exact rfl); (refine zS ?_)
      refine w_nil ?_
      repeat (first | refine gG ?_ | refine zN1 (fun hlen => ?_) | refine zN2 (fun hlen => ?_) | refine zAl (fun _ => ?_) | refine zBx (fun _ => ?_) | refine zAp (fun _ => ?_))
      exact ⟨(j + 1, _), hj', by dsimp only; omega, x_wkd 4 ⟨rfl, trivial⟩ (by dsimp only; rw [← hsp]; rfl) (by repeat (first | exact ag_refl | refine ag_upd rfl ?_ | refine ag_at rfl rfl ?_))⟩
    · have hj' : j = mb.length := by have : ¬ j < br.length := by simpa using h
                                     omega
      subst hj'
      rw [List.take_length]
      clear h hat hmz
      refine x_fzc 2 1 ?_
      repeat (first | refine gG ?_ | refine zN1 (fun hlen => ?_) | refine zN2 (fun hlen => ?_) | refine zAl (fun _ => ?_) | refine zBx (fun _ => ?_) | refine zAp (fun _ => ?_))
      refine ac_draw [0, 0, 0, 1, 1, 1, 2] [0, 1, 2, 3, 4, 5, 6] (by kernel_rfl) (by kernel_rfl) ?_
      refine gW ?_
      apply w_q; (focus exact rfl); (focus exact rfl); focus (intro _; (refine zCall hck ?_; rintro _ rfl); exact det_refl)
      refine gW ?_
      apply w_q; (focus exact rfl); (focus exact rfl); focus (intro _; (refine zIxo j0 hjn ?_); exact det_refl)
      apply w_l; (focus exact rfl); (focus exact rfl); (refine zSe hspl hble ?_)
      refine w_nil ?_
      repeat (first | refine gG ?_ | refine zN1 (fun hlen => ?_) | refine zN2 (fun hlen => ?_) | refine zAl (fun _ => ?_) | refine zBx (fun _ => ?_) | refine zAp (fun _ => ?_))
      exact ⟨k + 1, hk', by omega, x_wkd 1 ⟨rfl, trivial⟩ rfl (by repeat (first | exact ag_refl | refine ag_upd rfl ?_ | refine ag_at rfl rfl ?_))⟩
  · have hk' : k = l.length := by have : ¬ k < l.length := by simpa using h
                                  omega
    subst hk'
    rw [mv_end hi]
    repeat (first | refine gG ?_ | refine zN1 (fun hlen => ?_) | refine zN2 (fun hlen => ?_) | refine zAl (fun _ => ?_) | refine zBx (fun _ => ?_) | refine zAp (fun _ => ?_))
    first | refine zR ?_ | refine zQ ?_
    unfold seRow
    rw [show (movedS l i).length = l.length by simp [movedS]]
    rfl
end Go.Proofs.YthloejmmgdjimaaDoor
