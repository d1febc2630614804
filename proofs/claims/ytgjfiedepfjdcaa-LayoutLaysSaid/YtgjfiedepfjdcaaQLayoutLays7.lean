/-
  Texts of this proof, part 7: Jlc0 Jlf Ir Jlm Jta Jtb Jtc.
-/
import Derived.Test.YtgjfiedepfjdcaaQLayoutLays6
import Derived.Laws.IdiomRangeMap
import Derived.Laws.Strings2
import Derived.WideKeyEntry
namespace Go.Proofs.Ytgjfiedepfjdcaa
open Go.RowKit
theorem nth {α : Type} {l : List α} {k : Nat} (h : k < l.length) : ∃ a, l[k]? = some a := ⟨l[k], List.getElem?_eq_getElem h⟩
theorem Lp.ts_len (p : Lp) : p.ts.length = 3 := rfl
def Lp.row (l : List Lp) : T := .row l.length 3 (l.flatMap Lp.ts)
theorem Lp.at {l : List Lp} {k : Nat} {p : Lp} (h : l[k]? = some p) : ((l.flatMap Lp.ts).drop (k * 3)).take 3 = p.ts := flat_at Lp.ts 3 Lp.ts_len h
theorem drop_cons {l : List Lp} {k : Nat} {p : Lp} (h : l[k]? = some p) : l.drop k = p :: l.drop (k + 1) := by
  obtain ⟨h1, rfl⟩ := List.getElem?_eq_some_iff.1 h
  exact List.drop_eq_getElem_cons h1
theorem badP_no {ka nu : Int} {s : ByteArray} (h1 : ¬ ka < 1) (h6 : ¬ ka > 6) (h2 : ka = 1 ∨ s = ⟨#[]⟩) (h3 : ka = 5 ∨ nu = 0) (hz : ¬ ((s.size : Nat) : Int) > 4000) (hn : nlB s = false) : badP ⟨ka, nu, s⟩ = false := by
  simp only [badP, Bool.or_eq_false_iff, Bool.and_eq_false_iff, decide_eq_false_iff_not, Bool.not_eq_false', decide_eq_true_eq]
  exact ⟨⟨⟨⟨⟨h1, by omega⟩, h2⟩, h3⟩, by omega⟩, hn⟩
theorem chk_bad {k : Int} {p : Lp} {r : List Lp} (h : badP p = true) : chk k (p :: r) = 3 := by rw [chk, if_pos h]
theorem chk_arg {k : Int} {p : Lp} {r : List Lp} (h : badP p = false) (h2 : argP p = true) : chk k (p :: r) = 1 := by rw [chk, h, if_neg (by decide), if_pos h2]
theorem chk_far {k : Int} {p : Lp} {r : List Lp} (h : badP p = false) (h2 : argP p = false) (h3 : k + dl p < 0 ∨ 200 < k + dl p) : chk k (p :: r) = 3 := by rw [chk, h, if_neg (by decide), h2, if_neg (by decide), if_pos h3]
theorem chk_next {k : Int} {p : Lp} {r : List Lp} (h : badP p = false) (h2 : argP p = false) (h3 : ¬ (k + dl p < 0 ∨ 200 < k + dl p)) : chk k (p :: r) = chk (k + dl p) r := by rw [chk, h, if_neg (by decide), h2, if_neg (by decide), if_neg h3]
end Go.Proofs.Ytgjfiedepfjdcaa
namespace Go.Proofs.Ytgjfiedepfjdcaa
open Go.RowKit
def depN (d : List Lp) (k : Nat) : Int := ((d.take k).map dl).sum
theorem depN_snoc {d : List Lp} {k : Nat} {p : Lp} (h : d[k]? = some p) : depN d (k + 1) = depN d k + dl p := by
  obtain ⟨hk, rfl⟩ := List.getElem?_eq_some_iff.1 h
  unfold depN
  rw [List.take_succ_eq_append_getElem hk, List.map_append, List.sum_append]
  simp
theorem chk_all : ∀ (d : List Lp) (k : Int), 0 ≤ k → k ≤ 200 → chk k d = 0 → (∀ p ∈ d, OkP p) ∧ ∀ j, 0 ≤ k + depN d j ∧ k + depN d j ≤ 200
  | [], k, h0, h1, _ => ⟨by simp, fun j => by simp [depN]; omega⟩
  | p :: r, k, h0, h1, h => by
    unfold chk at h
    cases hb : badP p
    case true => simp [hb] at h
    cases ha : argP p
    case true => simp [hb, ha] at h
    simp only [hb, ha, if_false, Bool.false_eq_true] at h
    split at h
    · simp at h
    rename_i hr
    obtain ⟨g1, g2⟩ := chk_all r (k + dl p) (by omega) (by omega) h
    refine ⟨fun q hq => ?_, fun j => ?_⟩
    · rcases List.mem_cons.1 hq with rfl | hq
      · exact okP_of hb ha
      · exact g1 q hq
    · cases j with
      | zero => simp [depN]; omega
      | succ j =>
        have := g2 j
        have e : depN (p :: r) (j + 1) = dl p + depN r j := by simp [depN]
        rw [e]
        omega
theorem OkP.plen {p : Lp} (h : OkP p) : (plen p : Int) ≤ 4000 := by
  unfold Go.Proofs.Ytgjfiedepfjdcaa.plen
  have := h.sz
  split <;> omega
theorem tl_le : ∀ (d : List Lp), (∀ p ∈ d, OkP p) → tlN d ≤ 4000 * d.length
  | [], _ => by simp [tlN]
  | p :: r, h => by
    have h1 := (h p (by simp)).sz
    have h2 := tl_le r (fun q hq => h q (List.mem_cons_of_mem _ hq))
    rw [tlN, List.length_cons]
    split <;> omega
theorem tlF_le {d : List Lp} (h : ∀ p ∈ d, OkP p) (hl : d.length ≤ 8000) (i : Nat) : 0 ≤ tlF d i ∧ tlF d i ≤ 32000000 := by
  have h1 := tl_le (d.drop i) (fun p hp => h p (List.mem_of_mem_drop hp))
  rw [List.length_drop] at h1
  unfold tlF
  omega
structure MI (k : Nat) (dep : Int) (s : Ms) : Prop where
  w0 : 0 ≤ s.w
  w1 : s.w ≤ 4000 * k
  h0 : 0 ≤ s.h
  h1 : s.h ≤ k
  st : ∀ t ∈ s.stk, 0 ≤ t.1 ∧ t.1 ≤ k ∧ 0 ≤ t.2.1 ∧ t.2.1 ≤ s.w ∧ 0 ≤ t.2.2 ∧ t.2.2 ≤ s.h
  ln : (s.stk.length : Int) = dep
  out : ∀ e ∈ s.out, (0 ≤ e.2.wd ∧ e.2.wd ≤ 32000000) ∧ (0 ≤ e.2.tl ∧ e.2.tl ≤ 32000000)
theorem gputG_mem {k : Int} {g : Gp} : ∀ {o : List (Int × Gp)} {e : Int × Gp}, e ∈ gput k g o → e = (k, g) ∨ e ∈ o
  | [], e, h => by simp [gput] at h; exact .inl h
  | (k', g') :: o, e, h => by
    rw [gput] at h
    split at h
    · rcases List.mem_cons.1 h with h | h
      · exact .inl h
      · exact .inr (List.mem_cons_of_mem _ h)
    · rcases List.mem_cons.1 h with h | h
      · exact .inr (by rw [h]; exact List.mem_cons_self)
      · rcases gputG_mem h with h | h
        · exact .inl h
        · exact .inr (List.mem_cons_of_mem _ h)
theorem topM_mem {s : Ms} (h : s.stk ≠ []) : s.stk = s.stk.dropLast ++ [topM s] ∧ topM s ∈ s.stk := by
  have h1 : topM s = s.stk.getLast h := by unfold topM; rw [List.getLast?_eq_some_getLast h]; rfl
  rw [h1]
  exact ⟨(List.dropLast_concat_getLast h).symm, List.getLast_mem h⟩
theorem mstep_ok {T : Nat → Int} (hT : ∀ i, 0 ≤ T i ∧ T i ≤ 32000000) {k : Nat} (hk : k < 8000) {dep : Int} {s : Ms} {p : Lp} (h : MI k dep s) (hp : OkP p) (hd : 0 ≤ dep + dl p) : MI (k + 1) (dep + dl p) (mstep T k p s) := by
  have hl := hp.plen
  have hl0 : 0 ≤ (plen p : Int) := by omega
  obtain ⟨a1, a2, a3, a4, a5, a6, a7⟩ := h
  unfold mstep
  by_cases h5 : p.kind = 5
  · rw [if_pos h5]
    have e : dl p = 1 := by unfold dl; rw [if_pos h5]
    refine ⟨by dsimp only; omega, by dsimp only; omega, a3, by dsimp only; omega, fun t ht => ?_, ?_, a7⟩
    · dsimp only at ht ⊢
      rcases List.mem_append.1 ht with ht | ht
      · have := a5 t ht; omega
      · rw [List.mem_singleton.1 ht]; dsimp only; omega
    · rw [List.length_append, List.length_singleton, e]; omega
  · rw [if_neg h5]
    by_cases h6 : p.kind = 6
    · rw [if_pos h6]
      have e : dl p = -1 := by unfold dl; rw [if_neg h5, if_pos h6]
      have hne : s.stk ≠ [] := fun h0 => by rw [h0] at a6; simp at a6; omega
      obtain ⟨h7, h8⟩ := topM_mem hne
      have hm := a5 _ h8
      refine ⟨by dsimp only; omega, by dsimp only; omega, a3, by dsimp only; omega, fun t ht => ?_, ?_, fun e he => ?_⟩
      · have := a5 t (List.dropLast_subset _ ht)
        dsimp only
        omega
      · rw [List.length_dropLast, e]
        have := List.length_pos_iff.2 hne
        omega
      · rcases gputG_mem he with rfl | he
        · have := hT (k + 1)
          dsimp only
          omega
        · exact a7 e he
    · rw [if_neg h6]
      have e : dl p = 0 := by unfold dl; rw [if_neg h5, if_neg h6]
      rw [e, Int.add_zero]
      split
      · exact ⟨by dsimp only; omega, by dsimp only; omega, by dsimp only; omega, by dsimp only; omega, fun t ht => by have := a5 t ht; dsimp only; omega, a6, a7⟩
      · exact ⟨by dsimp only; omega, by dsimp only; omega, by dsimp only; omega, by dsimp only; omega, fun t ht => by have := a5 t ht; dsimp only; omega, a6, a7⟩
def msK (d : List Lp) (k : Nat) : Ms := mrun (tlF d) 0 (d.take k) ms0
theorem msK_ok {d : List Lp} (h : chk 0 d = 0) (hl : d.length ≤ 8000) : ∀ k, k ≤ d.length → MI k (depN d k) (msK d k)
  | 0, _ => ⟨Int.le_refl 0, Int.le_refl 0, Int.le_refl 0, Int.le_refl 0, fun t ht => absurd ht (List.not_mem_nil (a := t)), rfl, fun t ht => absurd ht (List.not_mem_nil (a := t))⟩
  | k + 1, hk => by
    obtain ⟨h1, h2⟩ := chk_all d 0 (by decide) (by decide) h
    have hg : d[k]? = some d[k] := List.getElem?_eq_getElem hk
    have := msK_ok h hl k (by omega)
    unfold msK
    rw [mrun_snoc _ hg, depN_snoc hg]
    have h3 := h2 (k + 1)
    rw [depN_snoc hg] at h3
    exact mstep_ok (tlF_le h1 hl) (by omega) this (h1 _ (List.getElem_mem hk)) (by omega)
structure LI (k : Nat) (dep : Int) (s : Ls) : Prop where
  ln : (s.stk.length : Int) = dep + 1
  st : ∀ (j : Nat) (t : Gp), s.stk[j]? = some t → 0 ≤ t.ind ∧ t.ind ≤ 200 * j
  c0 : 0 ≤ s.col
  c1 : s.col ≤ 40000 + 4000 * k
  o1 : s.out.size ≤ 45000 * k
theorem topL_at {s : Ls} (h : s.stk ≠ []) : s.stk = s.stk.dropLast ++ [topL s] ∧ s.stk[s.stk.length - 1]? = some (topL s) := by
  have h1 : topL s = s.stk.getLast h := by unfold topL; rw [List.getLast?_eq_some_getLast h]; rfl
  rw [h1]
  refine ⟨(List.dropLast_concat_getLast h).symm, ?_⟩
  rw [← List.getLast?_eq_getElem?, List.getLast?_eq_some_getLast h]
theorem nlS_size (n : Int) : (nlS n).size = 1 + n.toNat := by
  unfold nlS
  rw [ByteArray.size_append]
  show 1 + (List.replicate n.toNat (32 : UInt8)).toArray.size = _
  simp
theorem lstep_ok {W : Int} {g : List (Int × Gp)} {k : Nat} {dep : Int} {s : Ls} {p : Lp} (h : LI k dep s) (hp : OkP p) (hd : 0 ≤ dep + dl p) (hd1 : 0 ≤ dep) (hd2 : dep ≤ 200) : LI (k + 1) (dep + dl p) (lstep W g k p s) := by
  have hl := hp.sz
  obtain ⟨a1, a2, a3, a4, a5⟩ := h
  have hne : s.stk ≠ [] := fun h0 => by rw [h0] at a1; simp at a1; omega
  obtain ⟨h7, h8⟩ := topL_at hne
  have hm := a2 _ _ h8
  have hpos := List.length_pos_iff.2 hne
  unfold lstep
  by_cases h5 : p.kind = 5
  · rw [if_pos h5]
    have e : dl p = 1 := by unfold dl; rw [if_pos h5]
    have := hp.n0
    have := hp.n2
    refine ⟨by rw [List.length_append, List.length_singleton, e]; omega, fun j t ht => ?_, a3, by dsimp only; omega, by dsimp only; omega⟩
    dsimp only at ht
    rw [List.getElem?_append] at ht
    split at ht
    · exact a2 j t ht
    · have hj : j - s.stk.length = 0 := by
        have := (List.getElem?_eq_some_iff.1 ht).1
        simp at this
        omega
      rw [hj] at ht
      simp at ht
      rw [← ht]
      unfold opG
      dsimp only
      omega
  · rw [if_neg h5]
    by_cases h6 : p.kind = 6
    · rw [if_pos h6]
      have e : dl p = -1 := by unfold dl; rw [if_neg h5, if_pos h6]
      refine ⟨by rw [List.length_dropLast, e]; omega, fun j t ht => ?_, a3, by dsimp only; omega, by dsimp only; omega⟩
      dsimp only at ht
      rw [List.getElem?_dropLast] at ht
      split at ht
      · exact a2 j t ht
      · cases ht
    · rw [if_neg h6]
      have e : dl p = 0 := by unfold dl; rw [if_neg h5, if_neg h6]
      rw [e, Int.add_zero]
      split
      · refine ⟨a1, a2, by dsimp only; omega, by dsimp only; omega, ?_⟩
        dsimp only
        rw [ByteArray.size_append, nlS_size]
        omega
      · split
        · refine ⟨a1, a2, by dsimp only; omega, by dsimp only; omega, ?_⟩
          dsimp only
          rw [ByteArray.size_append]
          show s.out.size + 1 ≤ _
          omega
        · refine ⟨a1, a2, by dsimp only; omega, by dsimp only; omega, ?_⟩
          dsimp only
          rw [ByteArray.size_append]
          omega
def lsK (d : List Lp) (W : Int) (g : List (Int × Gp)) (k : Nat) : Ls := lrun W g 0 (d.take k) ls0
theorem lsK_ok {d : List Lp} {W : Int} {g : List (Int × Gp)} (h : chk 0 d = 0) : ∀ k, k ≤ d.length → LI k (depN d k) (lsK d W g k)
  | 0, _ => ⟨rfl, fun j t ht => by
      have h2 : t = gT := by
        cases j with
        | zero => exact (Option.some.inj ht).symm
        | succ j => cases ht
      rw [h2]
      show (0 : Int) ≤ 0 ∧ (0 : Int) ≤ 200 * j
      omega, Int.le_refl 0, (by decide : (0 : Int) ≤ 40000), Nat.le_refl 0⟩
  | k + 1, hk => by
    obtain ⟨h1, h2⟩ := chk_all d 0 (by decide) (by decide) h
    have hg : d[k]? = some d[k] := List.getElem?_eq_getElem hk
    have := lsK_ok (W := W) (g := g) h k (by omega)
    unfold lsK
    rw [lrun_snoc _ _ hg, depN_snoc hg]
    have h3 := h2 (k + 1)
    rw [depN_snoc hg] at h3
    have h4 := h2 k
    exact lstep_ok this (h1 _ (List.getElem_mem hk)) (by omega) (by omega) (by omega)
end Go.Proofs.Ytgjfiedepfjdcaa
namespace Go.Proofs.Ytgjfiedepfjdcaa
open Go.RowKit
def intTs (i : Int) : List T := [.lit (.int .i64 i)]
theorem int_at {l : List Int} {k : Nat} {i : Int} (h : l[k]? = some i) : (l.flatMap intTs)[k * 1]? = some (.lit (.int .i64 i)) := flat_get intTs 1 (fun _ => rfl) h (j := 0) (by omega)
end Go.Proofs.Ytgjfiedepfjdcaa
namespace Go.Proofs.Ytgjfiedepfjdcaa
open Go.RowKit
theorem lp_kind {d : List Lp} {i : Nat} {p : Lp} (h : d[i]? = some p) : (d.flatMap Lp.ts)[i * 3]? = some (.lit (.int .i64 p.kind)) := by
  have h1 := Lp.at h
  have h2 := congrArg (fun l : List T => l[0]?) h1
  simpa [List.getElem?_take, List.getElem?_drop, Lp.ts] using h2
theorem lp_s {d : List Lp} {i : Nat} {p : Lp} (h : d[i]? = some p) : (d.flatMap Lp.ts)[i * 3 + 2]? = some (.lit (.string p.s)) := by
  have h1 := Lp.at h
  have h2 := congrArg (fun l : List T => l[2]?) h1
  simpa [List.getElem?_take, List.getElem?_drop, Lp.ts] using h2
set_option maxRecDepth 100000 in
set_option maxHeartbeats 1000000 in
theorem length_af (p : Lp) : AF Try.prog 16 [.agg p.ts] (· = .lit (.int .i64 ((plen p : Nat) : Int))) := by
  obtain ⟨ka, nu, s⟩ := p
  unfold plen
  by_cases h2 : ka = 2
  · have d : decide (ka = 2) = true := decide_eq_true h2
    refine af_enter tok Try.func16 Try.ntmps16 Try.results16 rfl (by kernel_rfl) rfl rfl fun F hX => ?_
    repeat (first | refine gG ?_ | refine zN1 (fun hlen => ?_) | refine zN2 (fun hlen => ?_) | refine zBx (fun _ => ?_))
    first | refine zR ?_ | refine zQ ?_
    rw [if_pos h2]
    rfl
  · have d : decide (ka = 2) = false := decide_eq_false h2
    refine af_enter tok Try.func16 Try.ntmps16 Try.results16 rfl (by kernel_rfl) rfl rfl fun F hX => ?_
    repeat (first | refine gG ?_ | refine zN1 (fun hlen => ?_) | refine zN2 (fun hlen => ?_) | refine zBx (fun _ => ?_))
    first | refine zR ?_ | refine zQ ?_
    rw [if_neg h2]
    rfl
theorem tlF_step {d : List Lp} {i : Nat} {p : Lp} (h : d[i]? = some p) : tlF d i = if p.kind = 2 ∨ p.kind = 3 ∨ p.kind = 4 then 0 else ((p.s.size : Nat) : Int) + tlF d (i + 1) := by
  unfold tlF
  rw [drop_cons h, tlN]
  split <;> simp
theorem tlF_end (d : List Lp) : tlF d d.length = 0 := by
  unfold tlF
  rw [List.drop_length]
  rfl
def tR (d : List Lp) (i : Nat) : List Int := (List.range (d.length + 1)).map fun j => if i ≤ j then tlF d j else 0
theorem tR_len (d : List Lp) (i : Nat) : (tR d i).length = d.length + 1 := by simp [tR]
theorem tR_at {d : List Lp} {i j : Nat} (hj : j ≤ d.length) (hi : i ≤ j) : (tR d i)[j]? = some (tlF d j) := by
  unfold tR
  rw [List.getElem?_map, List.getElem?_range (by omega)]
  simp [hi]
theorem tR_top (d : List Lp) : tR d d.length = List.replicate (d.length + 1) 0 := by
  apply List.ext_getElem?
  intro j
  unfold tR
  by_cases h : j < d.length + 1
  · rw [List.getElem?_map, List.getElem?_range h, List.getElem?_replicate, if_pos h]
    simp only [Option.map_some]
    by_cases h2 : d.length ≤ j
    · rw [if_pos h2, show j = d.length by omega, tlF_end]
    · rw [if_neg h2]
  · rw [List.getElem?_eq_none (by simp; omega), List.getElem?_eq_none (by simp; omega)]
theorem tR_cells (d : List Lp) : (List.replicate (d.length + 1) [T.lit (.int .i64 0)]).flatten = (tR d d.length).flatMap intTs := by
  rw [tR_top]
  induction d.length + 1 with
  | zero => rfl
  | succ n ih => rw [List.replicate_succ, List.flatten_cons, ih, List.replicate_succ, List.flatMap_cons]; rfl
theorem tR_set {d : List Lp} {i : Nat} (hi : i < d.length) : (tR d (i + 1)).set i (tlF d i) = tR d i := by
  apply List.ext_getElem?
  intro j
  by_cases h : j < d.length + 1
  · by_cases hij : i = j
    · subst hij
      rw [List.getElem?_set_self (by rw [tR_len]; omega), tR_at (by omega) (Nat.le_refl _)]
    · rw [List.getElem?_set_ne hij]
      unfold tR
      rw [List.getElem?_map, List.getElem?_map, List.getElem?_range h]
      simp only [Option.map_some]
      by_cases h2 : i + 1 ≤ j
      · rw [if_pos h2, if_pos (by omega)]
      · rw [if_neg h2, if_neg (by omega)]
  · rw [List.getElem?_eq_none (by rw [List.length_set, tR_len]; omega), List.getElem?_eq_none (by rw [tR_len]; omega)]
theorem tR_skip {d : List Lp} {i : Nat} (hi : i < d.length) (h0 : tlF d i = 0) : tR d i = tR d (i + 1) := by
  rw [← tR_set hi]
  apply List.ext_getElem?
  intro j
  by_cases hij : i = j
  · subst hij
    rw [List.getElem?_set_self (by rw [tR_len]; omega), h0]
    unfold tR
    rw [List.getElem?_map, List.getElem?_range (by omega)]
    simp only [Option.map_some]
    rw [if_neg (by omega)]
  · rw [List.getElem?_set_ne hij]
theorem splJ {α : Type} (f : α → List T) (sz : Nat) (hf : ∀ a, (f a).length = sz) : ∀ (l : List α) (j : Nat) (p : α), j < l.length → spl (l.flatMap f) (j * sz) (f p) = (l.set j p).flatMap f := by
  intro l j p hj
  have hl := len_flat (f := f) (sz := sz) hf
  have h1 : l = l.take j ++ l[j] :: l.drop (j + 1) := by rw [← List.drop_eq_getElem_cons hj, List.take_append_drop]
  have h2 : (l.take j).length = j := by rw [List.length_take]; omega
  rw [spl_eq _ _ _ (by
    rw [hf, hl]
    have := Nat.mul_le_mul_right sz (show j + 1 ≤ l.length by omega)
    rw [Nat.add_mul] at this
    omega)]
  rw [hf, show j * sz + sz = (j + 1) * sz by rw [Nat.add_mul, Nat.one_mul]]
  rw [take_flat hf j l, drop_flat hf (j + 1) l, List.set_eq_take_append_cons_drop, if_pos hj]
  simp
def stTs (t : Int × Int × Int) : List T := [.lit (.int .i64 t.1), .lit (.int .i64 t.2.1), .lit (.int .i64 t.2.2)]
theorem stTs_len (t : Int × Int × Int) : (stTs t).length = 3 := rfl
def gpT (g : Gp) : T := .agg g.ts
def gpMap (o : List (Int × Gp)) : List (Value × T) := mkeys (Value.int .i64) (mapT gpT o)
set_option maxRecDepth 100000 in
set_option maxHeartbeats 8000000 in
theorem measure_ag (d : List Lp) (h : chk 0 d = 0) (hl : d.length ≤ 8000) : AG Try.prog 8 [.c (Lp.row d)] [] (fun r hs => ∃ b, r = .own 0 (.map (some b)) ∧ hs = [.mp b (gpMap (msK d d.length).out)]) := by
  obtain ⟨hok, hdep⟩ := chk_all d 0 (by decide) (by decide) h
  have htl := tlF_le hok hl
  have hmi := msK_ok h hl
  refine ag_enter (1) tok Try.func8 Try.ntmps8 Try.results8 rfl (by kernel_rfl) rfl fun F => ?_
  repeat (first | refine gG ?_ | refine zN1 (fun hlen => ?_) | refine zN2 (fun hlen => ?_) | refine zSub ?_ | refine zAl (fun _ => ?_) | refine zAp (fun _ => ?_))
  refine zMk (d.length + 1) [.lit (.int .i64 0)] (fun v0 => ?_)
  rw [tR_cells]
  repeat (first | refine gG ?_ | refine zN1 (fun hlen => ?_) | refine zN2 (fun hlen => ?_) | refine zSub ?_ | refine zAl (fun _ => ?_) | refine zAp (fun _ => ?_))
  refine x_loop [4, 19, 20, 21, 22, 23, 24, 25, 26, 27, 28, 29, 30, 31, 32, 33, 34, 35, 36, 37, 38, 39, 40, 41, 42, 43, 44, 45, 46] (fun y : Nat => [(4, .c (.lit (.int .i64 ((y : Int) - 1))))]) (fun y => [.row v0 3 1 (d.length + 1) ((tR d y).flatMap intTs)]) (fun y => y ≤ d.length) (fun y => y) d.length (Nat.le_refl _) ⟨rfl, trivial⟩ rfl ?_
  rintro y hy
  cases y with
  | zero =>
    have c0 : decide ((0 : Int) ≤ ((0 : Nat) : Int) - 1) = false := rfl
    repeat (first | refine gG ?_ | refine zN1 (fun hlen => ?_) | refine zN2 (fun hlen => ?_) | refine zSub ?_ | refine zAl (fun _ => ?_) | refine zAp (fun _ => ?_))
    refine zMm (fun bm => ?_)
    repeat (first | refine gG ?_ | refine zN1 (fun hlen => ?_) | refine zN2 (fun hlen => ?_) | refine zSub ?_ | refine zAl (fun _ => ?_) | refine zAp (fun _ => ?_))
    refine x_own 6 54 3 rfl rfl rfl rfl rfl ?_
    refine x_loop [6, 7, 8, 9, 10, 11, 50, 51, 52, 53, 54, 55, 56, 57, 58, 59, 60, 61, 62, 63, 64, 65, 66, 67, 68, 69, 70, 71, 72, 73, 74, 75, 76, 77, 78, 79, 80, 81, 82, 83, 84, 85, 86, 87, 88, 89, 90, 91, 92, 93, 94, 95, 96, 97, 98, 99, 100, 101, 102, 103, 104] (fun y : Nat × Value => [(50, .c (.lit (.int .i64 (y.1 : Nat)))), (6, .own 2 y.2), (7, .c (.lit (.int .i64 (msK d y.1).w))), (8, .c (.lit (.int .i64 (msK d y.1).h)))]) (fun y => [.row v0 3 1 (d.length + 1) ((tR d 0).flatMap intTs), .mp bm (gpMap (msK d y.1).out), .row y.2 54 3 (msK d y.1).stk.length ((msK d y.1).stk.flatMap stTs)]) (fun y => y.1 ≤ d.length) (fun y => d.length - y.1) (0, .slice none 0 0) (Nat.zero_le _) ⟨rfl, rfl, rfl, rfl, trivial⟩ rfl ?_
    rintro ⟨k, u⟩ hk
    dsimp only at hk ⊢
    have hmk := hmi k hk
    repeat (first | refine gG ?_ | refine zN1 (fun hlen => ?_) | refine zN2 (fun hlen => ?_) | refine zSub ?_ | refine zAl (fun _ => ?_) | refine zAp (fun _ => ?_))
    refine x_cond rfl (fun h => ?_) (fun h => ?_)
    · have hk' : k < d.length := by simpa using h
      obtain ⟨p, hp⟩ := nth hk'
      have hop := hok p (List.mem_of_getElem? hp)
      have hpl := hop.plen
      have hla := length_af p
      have hnx : msK d (k + 1) = mstep (tlF d) k p (msK d k) := mrun_snoc _ hp ms0
      have hdp := hdep (k + 1)
      rw [depN_snoc hp] at hdp
      obtain ⟨a1, a2, a3, a4, a5, a6, a7⟩ := hmk
      have hat1 := int_at (tR_at (d := d) (i := 0) (j := k + 1) hk' (Nat.zero_le _))
      have htk := htl (k + 1)
      clear h hmi a7
      generalize msK d k = s at *
      obtain ⟨stk, w, hh, out⟩ := s
      dsimp only at a1 a2 a3 a4 a5 a6 ⊢
      have hsl : stk.length ≤ 200 := by have := hdep k; omega
      generalize hplp : plen p = pl at *
      repeat (first | refine gG ?_ | refine zN1 (fun hlen => ?_) | refine zN2 (fun hlen => ?_) | refine zSub ?_ | refine zAl (fun _ => ?_) | refine zAp (fun _ => ?_))
      refine zIx (k) (hk') ?_
      repeat (first | refine gG ?_ | refine zN1 (fun hlen => ?_) | refine zN2 (fun hlen => ?_) | refine zSub ?_ | refine zAl (fun _ => ?_) | refine zAp (fun _ => ?_))
      refine zEl (Lp.at hp) (Lp.ts_len p) ?_
      obtain ⟨ka, nu, s⟩ := p
      by_cases h5 : ka = 5
      · have f5 : decide (ka = 5) = true := decide_eq_true h5
        have hm : msK d (k + 1) = ⟨stk ++ [((k : Int), w, hh)], w + pl, hh, out⟩ := by rw [hnx, mstep, if_pos h5, hplp]
        clear hnx hdp a5 a6 hop hp
        repeat (first | refine gG ?_ | refine zN1 (fun hlen => ?_) | refine zN2 (fun hlen => ?_) | refine zSub ?_ | refine zAl (fun _ => ?_) | refine zAp (fun _ => ?_))
        refine zCall (hla) ?_
        rintro _ rfl
        repeat (first | refine gG ?_ | refine zN1 (fun hlen => ?_) | refine zN2 (fun hlen => ?_) | refine zSub ?_ | refine zAl (fun _ => ?_) | refine zAp (fun _ => ?_))
        refine lo_add rfl rfl (r := w + ((pl : Nat) : Int)) (by rw [IntWalk.i64_in _ (by omega)]) ?_
        repeat (first | refine gG ?_ | refine zN1 (fun hlen => ?_) | refine zN2 (fun hlen => ?_) | refine zSub ?_ | refine zAl (fun _ => ?_) | refine zAp (fun _ => ?_))
        exact ⟨(k + 1, _), hk', by dsimp only; omega, x_wkd 3 ⟨rfl, rfl, by dsimp only; rw [hm]; rfl, by dsimp only; rw [hm]; rfl, trivial⟩ (by dsimp only; rw [hm, List.length_append, List.flatMap_append]; rfl) (by repeat (first | exact ag_refl | refine ag_upd rfl ?_ | refine ag_at rfl rfl ?_))⟩
      · have f5 : decide (ka = 5) = false := decide_eq_false h5
        by_cases h6 : ka = 6
        · have f6 : decide (ka = 6) = true := decide_eq_true h6
          have e : dl ⟨ka, nu, s⟩ = -1 := by unfold dl; rw [if_neg h5, if_pos h6]
          have hne : stk ≠ [] := fun h0 => by rw [h0] at a6; simp only [List.length_nil] at a6; omega
          obtain ⟨e1, e2⟩ := topM_mem (s := ⟨stk, w, hh, out⟩) hne
          have ht := a5 _ e2
          have hm : msK d (k + 1) = ⟨stk.dropLast, w + pl, hh, gput (topM ⟨stk, w, hh, out⟩).1 ⟨w - (topM ⟨stk, w, hh, out⟩).2.1, tlF d (k + 1), decide (hh > (topM ⟨stk, w, hh, out⟩).2.2), false, 0⟩ out⟩ := by rw [hnx, mstep, if_neg h5, if_pos h6, hplp]
          dsimp only at e1
          clear hnx hdp a5 a6 hop hp e hne e2
          generalize topM ⟨stk, w, hh, out⟩ = t at *
          generalize stk.dropLast = S at *
          subst e1
          obtain ⟨ta, tw, th⟩ := t
          dsimp only at ht hm
          have hzl : (((S.length + 1 : Nat) : Int) - 1) = ((S.length : Nat) : Int) := by omega
          have hst : (((S ++ [(ta, tw, th)]).flatMap stTs).drop (S.length * 3)).take 3 = stTs (ta, tw, th) := flat_at stTs 3 stTs_len (by rw [List.getElem?_append_right (Nat.le_refl _), Nat.sub_self]; rfl)
          have hcut : ((S ++ [(ta, tw, th)]).flatMap stTs).take (S.length * 3) = S.flatMap stTs := by rw [take_flat stTs_len, List.take_left]
          have hput : mput ta (gpT ⟨w - tw, tlF d (k + 1), decide (hh > th), false, 0⟩) (mapT gpT out) = mapT gpT (gput ta ⟨w - tw, tlF d (k + 1), decide (hh > th), false, 0⟩ out) := mput_T gpT _ _ _
          rw [List.length_append, List.length_singleton]
          unfold gpMap
          repeat (first | refine gG ?_ | refine zN1 (fun hlen => ?_) | refine zN2 (fun hlen => ?_) | refine zSub ?_ | refine zAl (fun _ => ?_) | refine zAp (fun _ => ?_))
          refine zIxo (n := S.length + 1) S.length (by omega) ?_ (hz := hzl)
          repeat (first | refine gG ?_ | refine zN1 (fun hlen => ?_) | refine zN2 (fun hlen => ?_) | refine zSub ?_ | refine zAl (fun _ => ?_) | refine zAp (fun _ => ?_))
          refine zElo hst (stTs_len _) ?_
          repeat (first | refine gG ?_ | refine zN1 (fun hlen => ?_) | refine zN2 (fun hlen => ?_) | refine zSub ?_ | refine zAl (fun _ => ?_) | refine zAp (fun _ => ?_))
          refine zQh (n := S.length + 1) S.length (by omega) (fun u1 => ?_) (hz := hzl)
          rw [hcut]
          repeat (first | refine gG ?_ | refine zN1 (fun hlen => ?_) | refine zN2 (fun hlen => ?_) | refine zSub ?_ | refine zAl (fun _ => ?_) | refine zAp (fun _ => ?_))
          refine ac_draw [1, 1, 1, 1, 1, 1, 1, 1, 1, 1, 1, 1, 1, 1, 1, 1, 1, 2] [0, 1, 2, 3, 4, 5, 6, 7, 8, 9, 10, 11, 12, 13, 14, 15, 16, 17] (by kernel_rfl) (by kernel_rfl) ?_
          refine gW ?_
          apply w_q; (focus exact rfl); (focus exact rfl); focus (intro _; (refine zSub ?_); exact det_refl)
          refine gW ?_
          apply w_q; (focus exact rfl); (focus exact rfl); focus (intro _; (refine zIxo (n := d.length + 1) (k + 1) (by omega) ?_); exact det_refl)
          apply w_q; (focus exact rfl); (focus exact rfl); focus (intro _; (refine zElo1 hat1 ?_); exact det_refl)
          refine gW ?_
          apply w_l; (focus exact rfl); (focus exact rfl); (refine zUpiS 3 37 hput ?_)
          refine w_nil ?_
          repeat (first | refine gG ?_ | refine zN1 (fun hlen => ?_) | refine zN2 (fun hlen => ?_) | refine zSub ?_ | refine zAl (fun _ => ?_) | refine zAp (fun _ => ?_))
          refine zCall (hla) ?_
          rintro _ rfl
          repeat (first | refine gG ?_ | refine zN1 (fun hlen => ?_) | refine zN2 (fun hlen => ?_) | refine zSub ?_ | refine zAl (fun _ => ?_) | refine zAp (fun _ => ?_))
          refine lo_add rfl rfl (r := w + ((pl : Nat) : Int)) (by rw [IntWalk.i64_in _ (by omega)]) ?_
          repeat (first | refine gG ?_ | refine zN1 (fun hlen => ?_) | refine zN2 (fun hlen => ?_) | refine zSub ?_ | refine zAl (fun _ => ?_) | refine zAp (fun _ => ?_))
          exact ⟨(k + 1, _), hk', by dsimp only; omega, x_wkd 3 ⟨rfl, rfl, by dsimp only; rw [hm]; rfl, by dsimp only; rw [hm]; rfl, trivial⟩ (by dsimp only; rw [hm]; rfl) (by repeat (first | exact ag_refl | refine ag_upd rfl ?_ | refine ag_at rfl rfl ?_))⟩
        · have f6 : decide (ka = 6) = false := decide_eq_false h6
          by_cases h4 : ka = 4
          · have f4 : decide (ka = 4) = true := decide_eq_true h4
            have hm : msK d (k + 1) = ⟨stk, w + pl, hh + 1, out⟩ := by rw [hnx, mstep, if_neg h5, if_neg h6, if_pos h4, hplp]
            clear hnx hdp a5 a6 hop hp
            repeat (first | refine gG ?_ | refine zN1 (fun hlen => ?_) | refine zN2 (fun hlen => ?_) | refine zSub ?_ | refine zAl (fun _ => ?_) | refine zAp (fun _ => ?_))
            refine lo_add rfl rfl (r := hh + 1) (by rw [IntWalk.i64_in _ (by omega)]) ?_
            repeat (first | refine gG ?_ | refine zN1 (fun hlen => ?_) | refine zN2 (fun hlen => ?_) | refine zSub ?_ | refine zAl (fun _ => ?_) | refine zAp (fun _ => ?_))
            refine zCall (hla) ?_
            rintro _ rfl
            repeat (first | refine gG ?_ | refine zN1 (fun hlen => ?_) | refine zN2 (fun hlen => ?_) | refine zSub ?_ | refine zAl (fun _ => ?_) | refine zAp (fun _ => ?_))
            refine lo_add rfl rfl (r := w + ((pl : Nat) : Int)) (by rw [IntWalk.i64_in _ (by omega)]) ?_
            repeat (first | refine gG ?_ | refine zN1 (fun hlen => ?_) | refine zN2 (fun hlen => ?_) | refine zSub ?_ | refine zAl (fun _ => ?_) | refine zAp (fun _ => ?_))
            exact ⟨(k + 1, _), hk', by dsimp only; omega, x_wkd 3 ⟨rfl, rfl, by dsimp only; rw [hm]; rfl, by dsimp only; rw [hm]; rfl, trivial⟩ (by dsimp only; rw [hm]; rfl) (by repeat (first | exact ag_refl | refine ag_upd rfl ?_ | refine ag_at rfl rfl ?_))⟩
          · have f4 : decide (ka = 4) = false := decide_eq_false h4
            have hm : msK d (k + 1) = ⟨stk, w + pl, hh, out⟩ := by rw [hnx, mstep, if_neg h5, if_neg h6, if_neg h4, hplp]
            clear hnx hdp a5 a6 hop hp
            repeat (first | refine gG ?_ | refine zN1 (fun hlen => ?_) | refine zN2 (fun hlen => ?_) | refine zSub ?_ | refine zAl (fun _ => ?_) | refine zAp (fun _ => ?_))
            refine zCall (hla) ?_
            rintro _ rfl
            repeat (first | refine gG ?_ | refine zN1 (fun hlen => ?_) | refine zN2 (fun hlen => ?_) | refine zSub ?_ | refine zAl (fun _ => ?_) | refine zAp (fun _ => ?_))
            refine lo_add rfl rfl (r := w + ((pl : Nat) : Int)) (by rw [IntWalk.i64_in _ (by omega)]) ?_
            repeat (first | refine gG ?_ | refine zN1 (fun hlen => ?_) | refine zN2 (fun hlen => ?_) | refine zSub ?_ | refine zAl (fun _ => ?_) | refine zAp (fun _ => ?_))
            exact ⟨(k + 1, _), hk', by dsimp only; omega, x_wkd 3 ⟨rfl, rfl, by dsimp only; rw [hm]; rfl, by dsimp only; rw [hm]; rfl, trivial⟩ (by dsimp only; rw [hm]; rfl) (by repeat (first | exact ag_refl | refine ag_upd rfl ?_ | refine ag_at rfl rfl ?_))⟩
    · have hk' : k = d.length := by
        have : ¬ k < d.length := by simpa using h
        omega
      subst hk'
      clear h
      refine x_pick [1] ?_
      refine x_as 5 (.own 0 (.map (some bm))) re_own ?_
      repeat (first | refine gG ?_ | refine zN1 (fun hlen => ?_) | refine zN2 (fun hlen => ?_) | refine zSub ?_ | refine zAl (fun _ => ?_) | refine zAp (fun _ => ?_))
      refine zG ?_
      exact ⟨bm, rfl, rfl⟩
  | succ m =>
    have hm : m < d.length := hy
    obtain ⟨p, hp⟩ := nth hm
    have hz1 : (((m + 1 : Nat) : Int) - 1) = ((m : Nat) : Int) := by omega
    have hz2 : (((m + 1 : Nat) : Int) - 1 + 1) = ((m + 1 : Nat) : Int) := by omega
    have c0 : decide ((0 : Int) ≤ ((m + 1 : Nat) : Int) - 1) = true := decide_eq_true (by omega)
    have hk := lp_kind hp
    have hs := lp_s hp
    have hst := tlF_step hp
    have hsz := (hok p (List.mem_of_getElem? hp)).sz
    have htm := htl (m + 1)
    have hat := int_at (tR_at (d := d) (i := m + 1) (j := m + 1) hm (Nat.le_refl _))
    have hsp := splJ intTs 1 (fun _ => rfl) (tR d (m + 1)) m (tlF d m) (by rw [tR_len]; omega)
    rw [tR_set hm] at hsp
    have hcl : ((tR d (m + 1)).flatMap intTs).length = d.length + 1 := by rw [len_flat (f := intTs) (sz := 1) (fun _ => rfl), tR_len, Nat.mul_one]
    repeat (first | refine gG ?_ | refine zN1 (fun hlen => ?_) | refine zN2 (fun hlen => ?_) | refine zSub ?_ | refine zAl (fun _ => ?_) | refine zAp (fun _ => ?_))
    refine zIx m hm ?_ (hz := hz1)
    repeat (first | refine gG ?_ | refine zN1 (fun hlen => ?_) | refine zN2 (fun hlen => ?_) | refine zSub ?_ | refine zAl (fun _ => ?_) | refine zAp (fun _ => ?_))
    refine zEl1 hk ?_
    by_cases hb : p.kind = 2 ∨ p.kind = 3 ∨ p.kind = 4
    · have h0 : tlF d m = 0 := by rw [hst, if_pos hb]
      have hsk := tR_skip hm h0
      clear hst hsp hat hs htm hsz
      rcases hb with e | e | e
      · have f2 : decide (p.kind = 2) = true := decide_eq_true e
        repeat (first | refine gG ?_ | refine zN1 (fun hlen => ?_) | refine zN2 (fun hlen => ?_) | refine zSub ?_ | refine zAl (fun _ => ?_) | refine zAp (fun _ => ?_))
        exact ⟨m, Nat.le_of_lt hm, Nat.lt_succ_self m, x_wkd 1 ⟨by rw [← hz1]; rfl, trivial⟩ (by rw [hsk]; rfl) (by repeat (first | exact ag_refl | refine ag_upd rfl ?_ | refine ag_at rfl rfl ?_))⟩
      · have f2 : decide (p.kind = 2) = false := decide_eq_false (by omega)
        have f3 : decide (p.kind = 3) = true := decide_eq_true e
        repeat (first | refine gG ?_ | refine zN1 (fun hlen => ?_) | refine zN2 (fun hlen => ?_) | refine zSub ?_ | refine zAl (fun _ => ?_) | refine zAp (fun _ => ?_))
        exact ⟨m, Nat.le_of_lt hm, Nat.lt_succ_self m, x_wkd 1 ⟨by rw [← hz1]; rfl, trivial⟩ (by rw [hsk]; rfl) (by repeat (first | exact ag_refl | refine ag_upd rfl ?_ | refine ag_at rfl rfl ?_))⟩
      · have f2 : decide (p.kind = 2) = false := decide_eq_false (by omega)
        have f3 : decide (p.kind = 3) = false := decide_eq_false (by omega)
        have f4 : decide (p.kind = 4) = true := decide_eq_true e
        repeat (first | refine gG ?_ | refine zN1 (fun hlen => ?_) | refine zN2 (fun hlen => ?_) | refine zSub ?_ | refine zAl (fun _ => ?_) | refine zAp (fun _ => ?_))
        exact ⟨m, Nat.le_of_lt hm, Nat.lt_succ_self m, x_wkd 1 ⟨by rw [← hz1]; rfl, trivial⟩ (by rw [hsk]; rfl) (by repeat (first | exact ag_refl | refine ag_upd rfl ?_ | refine ag_at rfl rfl ?_))⟩
    · rw [if_neg hb] at hst
      have f2 : decide (p.kind = 2) = false := decide_eq_false (by omega)
      have f3 : decide (p.kind = 3) = false := decide_eq_false (by omega)
      have f4 : decide (p.kind = 4) = false := decide_eq_false (by omega)
      rw [hst] at hsp
      clear hb hst
      repeat (first | refine gG ?_ | refine zN1 (fun hlen => ?_) | refine zN2 (fun hlen => ?_) | refine zSub ?_ | refine zAl (fun _ => ?_) | refine zAp (fun _ => ?_))
      refine ac_draw [1, 1, 1, 1, 1, 1, 1, 1, 1, 1, 1, 1, 1, 1, 1, 2] [0, 1, 2, 3, 4, 5, 6, 7, 8, 9, 10, 11, 12, 13, 14, 15] (by kernel_rfl) (by kernel_rfl) ?_
      refine gW ?_
      apply w_q; (focus exact rfl); (focus exact rfl); focus (intro _; (refine zIx m hm ?_ (hz := hz1)); exact det_refl)
      refine gW ?_
      apply w_q; (focus exact rfl); (focus exact rfl); focus (intro _; (refine zEl1 hs ?_); exact det_refl)
      apply w_q; (focus exact rfl); (focus exact rfl); focus (intro _; (refine zN3 ?_); exact det_refl)
      refine gW ?_
      apply w_q; (focus exact rfl); (focus exact rfl); focus (intro _; (refine lo_add rfl rfl (r := ((m + 1 : Nat) : Int)) (by rw [IntWalk.i64_in _ (by omega)]; omega) ?_); exact det_refl)
      apply w_q; (focus exact rfl); (focus exact rfl); focus (intro _; (refine zIxo (n := d.length + 1) (m + 1) (by omega) ?_); exact det_refl)
      apply w_q; (focus exact rfl); (focus exact rfl); focus (intro _; (refine zElo1 hat ?_); exact det_refl)
      apply w_q; (focus exact rfl); (focus exact rfl); focus (intro _; (refine lo_add rfl rfl (r := ((p.s.size : Nat) : Int) + tlF d (m + 1)) (by rw [IntWalk.i64_in _ (by omega)]) ?_); exact det_refl)
      apply w_q; (focus exact rfl); (focus exact rfl); focus (intro _; (refine zIxo (n := d.length + 1) m (by omega) ?_ (hz := hz1)); exact det_refl)
      apply w_l; (focus exact rfl); (focus exact rfl); (refine zSe hsp (show m * 1 + 1 ≤ ((tR d (m + 1)).flatMap intTs).length by rw [hcl]; omega) ?_)
      refine w_nil ?_
      repeat (first | refine gG ?_ | refine zN1 (fun hlen => ?_) | refine zN2 (fun hlen => ?_) | refine zSub ?_ | refine zAl (fun _ => ?_) | refine zAp (fun _ => ?_))
      exact ⟨m, Nat.le_of_lt hm, Nat.lt_succ_self m, x_wkd 1 ⟨by rw [← hz1]; rfl, trivial⟩ rfl (by repeat (first | exact ag_refl | refine ag_upd rfl ?_ | refine ag_at rfl rfl ?_))⟩
end Go.Proofs.Ytgjfiedepfjdcaa
namespace Go.Proofs.Ytgjfiedepfjdcaa
open Go.RowKit
inductive Gn where
  | mk (b : Nat) (p : Lp) (v : Value) (a : Int) (l : List Gn)
def Gn.addr : Gn → Nat
  | .mk b _ _ _ _ => b
def Gn.ptr (x : Gn) : T := .lit (.pointer (some ⟨x.addr, 0, none⟩))
mutual
def Gn.nd : Gn → Nd
  | .mk _ p _ _ l => if p.kind = 5 then .grp p (Gn.nds l) else .leaf p
def Gn.nds : List Gn → List Nd
  | [] => []
  | x :: r => x.nd :: Gn.nds r
end
mutual
def Gn.bl : Gn → List Blk
  | .mk b p v a l => .box b 65 [.c (.lit (.int .i64 p.kind)), .c (.lit (.int .i64 p.num)), .c (.lit (.string p.s)), .own 1 v, .c (.lit (.int .i64 a))] :: .row v 63 1 l.length (l.map Gn.ptr) :: Gn.bls l
def Gn.bls : List Gn → List Blk
  | [] => []
  | x :: r => x.bl ++ Gn.bls r
end
theorem Gn.bls_flat : ∀ l : List Gn, Gn.bls l = l.flatMap Gn.bl
  | [] => rfl
  | x :: r => by rw [Gn.bls, Gn.bls_flat r]; rfl
/-- one of them ahead, and what is behind -/
def Gn.rest (l : List Gn) (j : Nat) : List Blk := Gn.bls (l.take j) ++ Gn.bls (l.drop (j + 1))
theorem Gn.pull {l : List Gn} {j : Nat} {x : Gn} (h : l[j]? = some x) : (Gn.bls l).Perm (x.bl ++ Gn.rest l j) := by
  obtain ⟨hj, rfl⟩ := List.getElem?_eq_some_iff.1 h
  have e : l = l.take j ++ l[j] :: l.drop (j + 1) := by rw [← List.drop_eq_getElem_cons hj, List.take_append_drop]
  unfold Gn.rest
  rw [Gn.bls_flat, Gn.bls_flat, Gn.bls_flat]
  conv => lhs; rw [e]
  rw [List.flatMap_append, List.flatMap_cons]
  exact List.perm_append_comm_assoc _ _ _
theorem Gn.pull2 {a b : Blk} {l : List Gn} {j : Nat} {x : Gn} (h : l[j]? = some x) : (a :: b :: Gn.bls l).Perm (x.bl ++ (a :: b :: Gn.rest l j)) := by
  have h1 := (Gn.pull h).cons b |>.cons a
  refine h1.trans ?_
  have := List.perm_append_comm_assoc [a, b] x.bl (Gn.rest l j)
  simpa using this
mutual
def Gn.ok : Gn → Prop
  | .mk _ p _ _ l => OkP p ∧ (p.kind ≠ 5 → l = [] ∧ p.kind ≠ 6) ∧ Gn.oks l
def Gn.oks : List Gn → Prop
  | [] => True
  | x :: r => x.ok ∧ Gn.oks r
end
theorem Gn.oks_mem : ∀ {l : List Gn} {x : Gn}, Gn.oks l → x ∈ l → x.ok
  | y :: r, x, h, hx => by
    simp only [Gn.oks] at h
    rcases List.mem_cons.1 hx with rfl | hx
    · exact h.1
    · exact Gn.oks_mem h.2 hx
mutual
def Gn.cnt : Gn → Nat
  | .mk _ _ _ _ l => 1 + Gn.cnts l
def Gn.cnts : List Gn → Nat
  | [] => 0
  | x :: r => x.cnt + Gn.cnts r
end
theorem Gn.cnt_split {l : List Gn} {j : Nat} {x : Gn} (h : l[j]? = some x) : Gn.cnts (l.drop j) = x.cnt + Gn.cnts (l.drop (j + 1)) := by
  obtain ⟨hj, rfl⟩ := List.getElem?_eq_some_iff.1 h
  rw [List.drop_eq_getElem_cons hj, Gn.cnts]
theorem sum_memA {l : List Gn} {x : Gn} (h : x ∈ l) : x.cnt ≤ Gn.cnts l := by
  induction l with
  | nil => cases h
  | cons y r ih =>
    rw [Gn.cnts]
    rcases List.mem_cons.1 h with rfl | h
    · omega
    · have := ih h; omega
mutual
theorem Gn.front_le : ∀ x : Gn, x.ok → 0 ≤ x.nd.front.1 ∧ x.nd.front.1 ≤ 4000 * (x.cnt : Int)
  | .mk b p v a l, h => by
    simp only [Gn.ok] at h
    obtain ⟨ho, _, hl⟩ := h
    have := ho.sz
    rw [Gn.nd, Gn.cnt]
    by_cases h5 : p.kind = 5
    · rw [if_pos h5, Nd.front]
      have := Gn.fronts_le l hl 0 (Int.le_refl 0)
      omega
    · rw [if_neg h5, Nd.front]
      split <;> (try dsimp only) <;> omega
theorem Gn.fronts_le : ∀ l : List Gn, Gn.oks l → ∀ n : Int, 0 ≤ n → 0 ≤ (Nd.fronts n (Gn.nds l)).1 ∧ (Nd.fronts n (Gn.nds l)).1 ≤ n + 4000 * (Gn.cnts l : Int)
  | [], _, n, hn => by rw [Gn.nds, Nd.fronts, Gn.cnts]; dsimp only; omega
  | x :: r, h, n, hn => by
    simp only [Gn.oks] at h
    have h1 := Gn.front_le x h.1
    have h2 := Gn.fronts_le r h.2 (n + x.nd.front.1) (by omega)
    rw [Gn.nds, Nd.fronts, Gn.cnts]
    split <;> (try dsimp only) <;> omega
end
theorem drop_consG {α : Type} {l : List α} {k : Nat} {p : α} (h : l[k]? = some p) : l.drop k = p :: l.drop (k + 1) := by
  obtain ⟨h1, rfl⟩ := List.getElem?_eq_some_iff.1 h
  exact List.drop_eq_getElem_cons h1
theorem as_ptr (x : Gn) (j : Nat) (M : Mm) (u : Value) (h : RA M (.c x.ptr) u) : RA M (.ptr j x.addr 0) u := by
  simp only [RA, Gn.ptr, RT] at h ⊢
  exact h
theorem Gn.ptr_at {l : List Gn} {j : Nat} {x : Gn} (h : l[j]? = some x) : (l.map Gn.ptr)[j * 1]? = some x.ptr := by
  rw [Nat.mul_one, List.getElem?_map, h]
  rfl
set_option maxRecDepth 100000 in
set_option maxHeartbeats 8000000 in
theorem front_ag : ∀ (n : Nat) (x : Gn), x.cnt ≤ n → n ≤ 10000 → x.ok → AG Try.prog 23 [.ptr 0 x.addr 0] x.bl (fun r hs => r = .tup [.c (.lit (.int .i64 x.nd.front.1)), .c (.lit (.bool x.nd.front.2))] ∧ hs = x.bl)
  | 0, .mk b p v a l, h, _, _ => by rw [Gn.cnt] at h; omega
  | n + 1, .mk b p v a l, h, hn, hx => by
    rw [Gn.cnt] at h
    simp only [Gn.ok] at hx
    obtain ⟨ho, hle, hl⟩ := hx
    have hsz := ho.sz
    rw [Gn.addr, Gn.nd, Gn.bl]
    obtain ⟨ka, nu, s⟩ := p
    dsimp only at hsz hle
    try dsimp only
    by_cases h5 : ka = 5
    · have f1 : decide (ka = 1) = false := decide_eq_false (by omega)
      have f5 : decide (ka = 5) = true := decide_eq_true h5
      rw [if_pos h5, Nd.front]
      have hih : ∀ (j : Nat) (x : Gn), l[j]? = some x → AG Try.prog 23 [.ptr 0 x.addr 0] x.bl (fun r hs => r = .tup [.c (.lit (.int .i64 x.nd.front.1)), .c (.lit (.bool x.nd.front.2))] ∧ hs = x.bl) := fun j x hj => front_ag n x (by
        have := sum_memA (List.mem_of_getElem? hj)
        omega) (by omega) (Gn.oks_mem hl (List.mem_of_getElem? hj))
      refine ag_enter (2 + (Gn.bls l).length) tok Try.func23 Try.ntmps23 Try.results23 rfl (by kernel_rfl) rfl fun F => ?_
      repeat (first | refine gG ?_ | refine zN1 (fun hlen => ?_) | refine zN2 (fun hlen => ?_))
      refine x_loop [2, 3, 4, 6, 7, 8, 29, 30, 31, 32, 33, 34, 35, 36, 37, 38, 39, 40, 41, 42, 43] (fun y : Nat × Int => [(29, .c (.lit (.int .i64 (y.1 : Nat)))), (4, .c (.lit (.int .i64 y.2)))]) (fun _ => .box b 65 [.c (.lit (.int .i64 ka)), .c (.lit (.int .i64 nu)), .c (.lit (.string s)), .own 1 v, .c (.lit (.int .i64 a))] :: .row v 63 1 l.length (l.map Gn.ptr) :: Gn.bls l) (fun y => y.1 ≤ l.length ∧ 0 ≤ y.2 ∧ y.2 + 4000 * (Gn.cnts (l.drop y.1) : Int) ≤ 4000 * (Gn.cnts l : Int) ∧ Nd.fronts 0 (Gn.nds l) = Nd.fronts y.2 (Gn.nds (l.drop y.1))) (fun y => l.length - y.1) (0, 0) ⟨Nat.zero_le _, Int.le_refl 0, by rw [List.drop_zero]; omega, by rw [List.drop_zero]⟩ ⟨rfl, rfl, trivial⟩ rfl ?_
      rintro ⟨j, acc⟩ ⟨hj, ha0, ha1, hinv⟩
      dsimp only at hj ha0 ha1 hinv ⊢
      repeat (first | refine gG ?_ | refine zN1 (fun hlen => ?_) | refine zN2 (fun hlen => ?_))
      refine x_cond rfl (fun h => ?_) (fun h => ?_)
      · have hj' : j < l.length := by simpa using h
        obtain ⟨x, hxj⟩ := nth hj'
        have hc := Gn.cnt_split hxj
        have hd : l.drop j = x :: l.drop (j + 1) := drop_consG hxj
        have hxo := Gn.oks_mem hl (List.mem_of_getElem? hxj)
        have hfl := Gn.front_le x hxo
        have hat := Gn.ptr_at hxj
        have hcall := hih j x hxj
        rw [hd, Gn.nds, Nd.fronts] at hinv
        rw [hc] at ha1
        clear h hih
        repeat (first | refine gG ?_ | refine zN1 (fun hlen => ?_) | refine zN2 (fun hlen => ?_))
        refine zIxo j hj' ?_
        repeat (first | refine gG ?_ | refine zN1 (fun hlen => ?_) | refine zN2 (fun hlen => ?_))
        refine zElo1 hat ?_
        repeat (first | refine gO ?_ | refine zN1 (fun hlen => ?_) | refine zN2 (fun hlen => ?_))
        refine x_as 6 (.ptr 0 x.addr 0) (as_ptr x 0) ?_
        repeat (first | refine gG ?_ | refine zN1 (fun hlen => ?_) | refine zN2 (fun hlen => ?_))
        refine lo_frame x.bl (.box b 65 [.c (.lit (.int .i64 ka)), .c (.lit (.int .i64 nu)), .c (.lit (.string s)), .own 1 v, .c (.lit (.int .i64 a))] :: .row v 63 1 l.length (l.map Gn.ptr) :: Gn.rest l j) (Gn.pull2 hxj) (fun F' => ?_)
        refine zCallAll hcall (List.Perm.refl _) ?_
        rintro _ _ ⟨rfl, rfl⟩
        refine ⟨_, re_refl, ?_⟩
        repeat (first | refine gO ?_ | refine zN1 (fun hlen => ?_) | refine zN2 (fun hlen => ?_))
        refine x_perm (Gn.pull2 hxj).symm ?_
        repeat (first | refine gG ?_ | refine zN1 (fun hlen => ?_) | refine zN2 (fun hlen => ?_))
        have hacc : acc + x.nd.front.1 ≤ 40000000 := by omega
        clear hcall hat hd
        generalize x.nd.front = fr at *
        obtain ⟨fw, fi⟩ := fr
        dsimp only at hinv hfl hacc ⊢
        refine lo_add rfl rfl (r := acc + fw) (by show IntKind.wrap .i64 (acc + fw) = acc + fw; rw [IntWalk.i64_in _ (by omega)]) ?_
        cases fi with
        | true =>
          rw [if_pos rfl] at hinv
          rw [hinv]
          clear hinv
          repeat (first | refine gG ?_ | refine zN1 (fun hlen => ?_) | refine zN2 (fun hlen => ?_))
          refine zGS (hq := .box b 65 [.c (.lit (.int .i64 ka)), .c (.lit (.int .i64 nu)), .c (.lit (.string s)), .own 1 v, .c (.lit (.int .i64 a))] :: .row v 63 1 l.length (l.map Gn.ptr) :: Gn.bls l) (List.take_of_length_le (by simp only [List.length_cons]; omega)) ⟨rfl, rfl⟩
        | false =>
          rw [if_neg (by decide)] at hinv
          replace hinv := fun _ : Unit => hinv
          repeat (first | refine gG ?_ | refine zN1 (fun hlen => ?_) | refine zN2 (fun hlen => ?_))
          exact ⟨(j + 1, acc + fw), ⟨hj', by dsimp only; omega, by dsimp only; omega, hinv ()⟩, by dsimp only; omega, x_wk ⟨rfl, rfl, trivial⟩ rfl (by repeat (first | exact ag_refl | refine ag_upd rfl ?_ | refine ag_at rfl rfl ?_))⟩
      · have hj' : j = l.length := by
          have : ¬ j < l.length := by simpa using h
          omega
        subst hj'
        rw [List.drop_length, Gn.nds, Nd.fronts] at hinv
        rw [hinv]
        clear hinv h hih
        repeat (first | refine gG ?_ | refine zN1 (fun hlen => ?_) | refine zN2 (fun hlen => ?_))
        refine zGS (hq := .box b 65 [.c (.lit (.int .i64 ka)), .c (.lit (.int .i64 nu)), .c (.lit (.string s)), .own 1 v, .c (.lit (.int .i64 a))] :: .row v 63 1 l.length (l.map Gn.ptr) :: Gn.bls l) (List.take_of_length_le (by simp only [List.length_cons]; omega)) ⟨rfl, rfl⟩
    · have f5 : decide (ka = 5) = false := decide_eq_false h5
      rw [if_neg h5, Nd.front]
      by_cases h1 : ka = 1
      · have f1 : decide (ka = 1) = true := decide_eq_true h1
        rw [if_pos h1]
        refine ag_enter (2 + (Gn.bls l).length) tok Try.func23 Try.ntmps23 Try.results23 rfl (by kernel_rfl) rfl fun F => ?_
        repeat (first | refine gG ?_ | refine zN1 (fun hlen => ?_) | refine zN2 (fun hlen => ?_))
        refine zGS (hq := .box b 65 [.c (.lit (.int .i64 ka)), .c (.lit (.int .i64 nu)), .c (.lit (.string s)), .own 1 v, .c (.lit (.int .i64 a))] :: .row v 63 1 l.length (l.map Gn.ptr) :: Gn.bls l) (List.take_of_length_le (by simp only [List.length_cons]; omega)) ⟨rfl, rfl⟩
      · have f1 : decide (ka = 1) = false := decide_eq_false h1
        rw [if_neg h1]
        refine ag_enter (2 + (Gn.bls l).length) tok Try.func23 Try.ntmps23 Try.results23 rfl (by kernel_rfl) rfl fun F => ?_
        repeat (first | refine gG ?_ | refine zN1 (fun hlen => ?_) | refine zN2 (fun hlen => ?_))
        refine zGS (hq := .box b 65 [.c (.lit (.int .i64 ka)), .c (.lit (.int .i64 nu)), .c (.lit (.string s)), .own 1 v, .c (.lit (.int .i64 a))] :: .row v 63 1 l.length (l.map Gn.ptr) :: Gn.bls l) (List.take_of_length_le (by simp only [List.length_cons]; omega)) ⟨rfl, rfl⟩
end Go.Proofs.Ytgjfiedepfjdcaa
namespace Go.Proofs.Ytgjfiedepfjdcaa
open Go.RowKit
mutual
theorem Gn.wide_le : ∀ x : Gn, x.ok → -1 ≤ x.nd.wide ∧ x.nd.wide ≤ 4000 * (x.cnt : Int)
  | .mk b p v a l, h => by
    simp only [Gn.ok] at h
    obtain ⟨ho, _, hl⟩ := h
    have := ho.sz
    rw [Gn.nd, Gn.cnt]
    by_cases h5 : p.kind = 5
    · rw [if_pos h5, Nd.wide]
      have := Gn.wides_le l hl 0 (Int.le_refl 0)
      omega
    · rw [if_neg h5, Nd.wide]
      split
      · omega
      · split
        · omega
        · split <;> omega
theorem Gn.wides_le : ∀ l : List Gn, Gn.oks l → ∀ n : Int, 0 ≤ n → -1 ≤ Nd.wides n (Gn.nds l) ∧ Nd.wides n (Gn.nds l) ≤ n + 4000 * (Gn.cnts l : Int)
  | [], _, n, hn => by rw [Gn.nds, Nd.wides, Gn.cnts]; omega
  | x :: r, h, n, hn => by
    simp only [Gn.oks] at h
    have h1 := Gn.wide_le x h.1
    rw [Gn.nds, Nd.wides, Gn.cnts]
    split
    · omega
    · have h2 := Gn.wides_le r h.2 (n + x.nd.wide) (by omega)
      omega
end
set_option maxRecDepth 100000 in
set_option maxHeartbeats 8000000 in
theorem wide_ag : ∀ (n : Nat) (x : Gn), x.cnt ≤ n → n ≤ 10000 → x.ok → AG Try.prog 24 [.ptr 0 x.addr 0] x.bl (fun r hs => r = .c (.lit (.int .i64 x.nd.wide)) ∧ hs = x.bl)
  | 0, .mk b p v a l, h, _, _ => by rw [Gn.cnt] at h; omega
  | n + 1, .mk b p v a l, h, hn, hx => by
    rw [Gn.cnt] at h
    simp only [Gn.ok] at hx
    obtain ⟨ho, hle, hl⟩ := hx
    have hsz := ho.sz
    rw [Gn.addr, Gn.nd, Gn.bl]
    obtain ⟨ka, nu, s⟩ := p
    dsimp only at hsz hle
    try dsimp only
    by_cases h5 : ka = 5
    · have f1 : decide (ka = 1) = false := decide_eq_false (by omega)
      have f2 : decide (ka = 2) = false := decide_eq_false (by omega)
      have f4 : decide (ka = 4) = false := decide_eq_false (by omega)
      have f5 : decide (ka = 5) = true := decide_eq_true h5
      rw [if_pos h5, Nd.wide]
      have hih : ∀ (j : Nat) (x : Gn), l[j]? = some x → AG Try.prog 24 [.ptr 0 x.addr 0] x.bl (fun r hs => r = .c (.lit (.int .i64 x.nd.wide)) ∧ hs = x.bl) := fun j x hj => wide_ag n x (by
        have := sum_memA (List.mem_of_getElem? hj)
        omega) (by omega) (Gn.oks_mem hl (List.mem_of_getElem? hj))
      refine ag_enter (2 + (Gn.bls l).length) tok Try.func24 Try.ntmps24 Try.results24 rfl (by kernel_rfl) rfl fun F => ?_
      repeat (first | refine gG ?_ | refine zN1 (fun hlen => ?_) | refine zN2 (fun hlen => ?_))
      refine x_loop [2, 3, 5, 6, 31, 32, 33, 34, 35, 36, 37, 38, 39, 40, 41, 42] (fun y : Nat × Int => [(31, .c (.lit (.int .i64 (y.1 : Nat)))), (3, .c (.lit (.int .i64 y.2)))]) (fun _ => .box b 65 [.c (.lit (.int .i64 ka)), .c (.lit (.int .i64 nu)), .c (.lit (.string s)), .own 1 v, .c (.lit (.int .i64 a))] :: .row v 63 1 l.length (l.map Gn.ptr) :: Gn.bls l) (fun y => y.1 ≤ l.length ∧ 0 ≤ y.2 ∧ y.2 + 4000 * (Gn.cnts (l.drop y.1) : Int) ≤ 4000 * (Gn.cnts l : Int) ∧ Nd.wides 0 (Gn.nds l) = Nd.wides y.2 (Gn.nds (l.drop y.1))) (fun y => l.length - y.1) (0, 0) ⟨Nat.zero_le _, Int.le_refl 0, by rw [List.drop_zero]; omega, by rw [List.drop_zero]⟩ ⟨rfl, rfl, trivial⟩ rfl ?_
      rintro ⟨j, acc⟩ ⟨hj, ha0, ha1, hinv⟩
      dsimp only at hj ha0 ha1 hinv ⊢
      repeat (first | refine gG ?_ | refine zN1 (fun hlen => ?_) | refine zN2 (fun hlen => ?_))
      refine x_cond rfl (fun h => ?_) (fun h => ?_)
      · have hj' : j < l.length := by simpa using h
        obtain ⟨x, hxj⟩ := nth hj'
        have hc := Gn.cnt_split hxj
        have hd : l.drop j = x :: l.drop (j + 1) := drop_consG hxj
        have hxo := Gn.oks_mem hl (List.mem_of_getElem? hxj)
        have hfl := Gn.wide_le x hxo
        have hat := Gn.ptr_at hxj
        have hcall := hih j x hxj
        rw [hd, Gn.nds, Nd.wides] at hinv
        rw [hc] at ha1
        clear h hih
        repeat (first | refine gG ?_ | refine zN1 (fun hlen => ?_) | refine zN2 (fun hlen => ?_))
        refine zIxo j hj' ?_
        repeat (first | refine gG ?_ | refine zN1 (fun hlen => ?_) | refine zN2 (fun hlen => ?_))
        refine zElo1 hat ?_
        repeat (first | refine gO ?_ | refine zN1 (fun hlen => ?_) | refine zN2 (fun hlen => ?_))
        refine x_as 5 (.ptr 0 x.addr 0) (as_ptr x 0) ?_
        repeat (first | refine gG ?_ | refine zN1 (fun hlen => ?_) | refine zN2 (fun hlen => ?_))
        refine lo_frame x.bl (.box b 65 [.c (.lit (.int .i64 ka)), .c (.lit (.int .i64 nu)), .c (.lit (.string s)), .own 1 v, .c (.lit (.int .i64 a))] :: .row v 63 1 l.length (l.map Gn.ptr) :: Gn.rest l j) (Gn.pull2 hxj) (fun F' => ?_)
        refine zCallAll hcall (List.Perm.refl _) ?_
        rintro _ _ ⟨rfl, rfl⟩
        refine ⟨_, re_refl, ?_⟩
        repeat (first | refine gO ?_ | refine zN1 (fun hlen => ?_) | refine zN2 (fun hlen => ?_))
        refine x_perm (Gn.pull2 hxj).symm ?_
        have hacc : acc + x.nd.wide ≤ 40000000 := by omega
        clear hcall hat hd
        generalize x.nd.wide = fw at *
        by_cases hneg : fw < 0
        · have fn : decide (fw < 0) = true := decide_eq_true hneg
          rw [if_pos hneg] at hinv
          rw [hinv]
          clear hinv
          repeat (first | refine gG ?_ | refine zN1 (fun hlen => ?_) | refine zN2 (fun hlen => ?_))
          refine zGS (hq := .box b 65 [.c (.lit (.int .i64 ka)), .c (.lit (.int .i64 nu)), .c (.lit (.string s)), .own 1 v, .c (.lit (.int .i64 a))] :: .row v 63 1 l.length (l.map Gn.ptr) :: Gn.bls l) (List.take_of_length_le (by simp only [List.length_cons]; omega)) ⟨rfl, rfl⟩
        · have fn : decide (fw < 0) = false := decide_eq_false hneg
          rw [if_neg hneg] at hinv
          replace hinv := fun _ : Unit => hinv
          repeat (first | refine gG ?_ | refine zN1 (fun hlen => ?_) | refine zN2 (fun hlen => ?_))
          refine lo_add rfl rfl (r := acc + fw) (by show IntKind.wrap .i64 (acc + fw) = acc + fw; rw [IntWalk.i64_in _ (by omega)]) ?_
          repeat (first | refine gG ?_ | refine zN1 (fun hlen => ?_) | refine zN2 (fun hlen => ?_))
          exact ⟨(j + 1, acc + fw), ⟨hj', by dsimp only; omega, by dsimp only; omega, hinv ()⟩, by dsimp only; omega, x_wk ⟨rfl, rfl, trivial⟩ rfl (by repeat (first | exact ag_refl | refine ag_upd rfl ?_ | refine ag_at rfl rfl ?_))⟩
      · have hj' : j = l.length := by
          have : ¬ j < l.length := by simpa using h
          omega
        subst hj'
        rw [List.drop_length, Gn.nds, Nd.wides] at hinv
        rw [hinv]
        clear hinv h hih
        repeat (first | refine gG ?_ | refine zN1 (fun hlen => ?_) | refine zN2 (fun hlen => ?_))
        refine zGS (hq := .box b 65 [.c (.lit (.int .i64 ka)), .c (.lit (.int .i64 nu)), .c (.lit (.string s)), .own 1 v, .c (.lit (.int .i64 a))] :: .row v 63 1 l.length (l.map Gn.ptr) :: Gn.bls l) (List.take_of_length_le (by simp only [List.length_cons]; omega)) ⟨rfl, rfl⟩
    · have f5 : decide (ka = 5) = false := decide_eq_false h5
      rw [if_neg h5, Nd.wide]
      by_cases h1 : ka = 1
      · have f1 : decide (ka = 1) = true := decide_eq_true h1
        rw [if_pos h1]
        refine ag_enter (2 + (Gn.bls l).length) tok Try.func24 Try.ntmps24 Try.results24 rfl (by kernel_rfl) rfl fun F => ?_
        repeat (first | refine gG ?_ | refine zN1 (fun hlen => ?_) | refine zN2 (fun hlen => ?_))
        refine zGS (hq := .box b 65 [.c (.lit (.int .i64 ka)), .c (.lit (.int .i64 nu)), .c (.lit (.string s)), .own 1 v, .c (.lit (.int .i64 a))] :: .row v 63 1 l.length (l.map Gn.ptr) :: Gn.bls l) (List.take_of_length_le (by simp only [List.length_cons]; omega)) ⟨rfl, rfl⟩
      · have f1 : decide (ka = 1) = false := decide_eq_false h1
        rw [if_neg h1]
        by_cases h2 : ka = 2
        · have f2 : decide (ka = 2) = true := decide_eq_true h2
          rw [if_pos h2]
          refine ag_enter (2 + (Gn.bls l).length) tok Try.func24 Try.ntmps24 Try.results24 rfl (by kernel_rfl) rfl fun F => ?_
          repeat (first | refine gG ?_ | refine zN1 (fun hlen => ?_) | refine zN2 (fun hlen => ?_))
          refine zGS (hq := .box b 65 [.c (.lit (.int .i64 ka)), .c (.lit (.int .i64 nu)), .c (.lit (.string s)), .own 1 v, .c (.lit (.int .i64 a))] :: .row v 63 1 l.length (l.map Gn.ptr) :: Gn.bls l) (List.take_of_length_le (by simp only [List.length_cons]; omega)) ⟨rfl, rfl⟩
        · have f2 : decide (ka = 2) = false := decide_eq_false h2
          rw [if_neg h2]
          by_cases h4 : ka = 4
          · have f4 : decide (ka = 4) = true := decide_eq_true h4
            rw [if_pos h4]
            refine ag_enter (2 + (Gn.bls l).length) tok Try.func24 Try.ntmps24 Try.results24 rfl (by kernel_rfl) rfl fun F => ?_
            repeat (first | refine gG ?_ | refine zN1 (fun hlen => ?_) | refine zN2 (fun hlen => ?_))
            refine zGS (hq := .box b 65 [.c (.lit (.int .i64 ka)), .c (.lit (.int .i64 nu)), .c (.lit (.string s)), .own 1 v, .c (.lit (.int .i64 a))] :: .row v 63 1 l.length (l.map Gn.ptr) :: Gn.bls l) (List.take_of_length_le (by simp only [List.length_cons]; omega)) ⟨rfl, rfl⟩
          · have f4 : decide (ka = 4) = false := decide_eq_false h4
            rw [if_neg h4]
            refine ag_enter (2 + (Gn.bls l).length) tok Try.func24 Try.ntmps24 Try.results24 rfl (by kernel_rfl) rfl fun F => ?_
            repeat (first | refine gG ?_ | refine zN1 (fun hlen => ?_) | refine zN2 (fun hlen => ?_))
            refine zGS (hq := .box b 65 [.c (.lit (.int .i64 ka)), .c (.lit (.int .i64 nu)), .c (.lit (.string s)), .own 1 v, .c (.lit (.int .i64 a))] :: .row v 63 1 l.length (l.map Gn.ptr) :: Gn.bls l) (List.take_of_length_le (by simp only [List.length_cons]; omega)) ⟨rfl, rfl⟩
end Go.Proofs.Ytgjfiedepfjdcaa
namespace Go.Proofs.Ytgjfiedepfjdcaa
open Go.RowKit
section
variable {P : Program} {F : Frm} {L : Tab} {d : Option Tmp} {ty : TypeId} {pos : String} {aft : Array Edge} {g : Option (Nat × Bool)} {ρ : Operand → AV} {hp : List Blk} {K : AV → List Blk → Prop}
theorem zStT {t : TypeId} {ti : TI} {x y : Operand} {i b off : Nat} {tb : TypeId} {cs cs' : List AV} {v : AV} (h : K (.c (.lit undef)) (hp.set i (.box b tb cs'))) (hL : TabOk P L := by exact tok) (hx : ρ x = .ptr i b off := by exact rfl) (hi : hp[i]? = some (.box b tb cs) := by exact rfl) (hv : fc (ρ y) = some v := by exact rfl) (ht : L.look t = some ti := by exact rfl) (h1 : allOne (cellsA v) = true := by first | exact rfl | assumption) (hl : (cellsA v).length = ti.size := by exact rfl) (hb : Nat.ble (off + ti.size) cs.length = true := by exact rfl) (hs : evl (spl cs off (cellsA v)) = some cs' := by exact rfl) :
    LO P F ⟨d, .store t x y, ty, pos, aft, g⟩ ρ hp K := lo_store hL hx hi (fc_eq hv) ht h1 hl hb (by rw [← evl_eq hs]; exact h)
end
theorem permA {a b c : Blk} {X R : List Blk} : (a :: b :: c :: (X ++ R)).Perm ((c :: X) ++ (a :: b :: R)) := by
  have := List.perm_append_comm_assoc [a, b] (c :: X) R
  simpa using this
theorem permB {a b c : Blk} {X R : List Blk} : (a :: b :: c :: (X ++ R)).Perm ((b :: c :: X) ++ (a :: R)) := by
  have := (List.perm_middle (a := a) (l₁ := b :: c :: X) (l₂ := R)).symm
  simpa using this
mutual
def Gn.set : Gn → Int → Gn
  | .mk b p v _ l, a => .mk b p v a (Gn.sets l a)
def Gn.sets : List Gn → Int → List Gn
  | [], _ => []
  | x :: r, a => x.set (aft (Gn.nds r) a) :: Gn.sets r a
end
mutual
theorem Gn.set_same : ∀ (x : Gn) (a : Int), (x.set a).nd = x.nd ∧ (x.set a).cnt = x.cnt ∧ (x.set a).addr = x.addr ∧ (x.ok → (x.set a).ok)
  | .mk b p v a0 l, a => by
    obtain ⟨h1, h2, h3, h4⟩ := Gn.sets_same l a
    refine ⟨?_, ?_, rfl, fun h => ?_⟩
    · rw [Gn.set, Gn.nd, Gn.nd, h1]
    · rw [Gn.set, Gn.cnt, Gn.cnt, h2]
    · simp only [Gn.ok] at h
      rw [Gn.set]
      simp only [Gn.ok]
      refine ⟨h.1, fun hk => ?_, h4 h.2.2⟩
      obtain ⟨e1, e2⟩ := h.2.1 hk
      rw [e1]
      exact ⟨rfl, e2⟩
theorem Gn.sets_same : ∀ (l : List Gn) (a : Int), Gn.nds (Gn.sets l a) = Gn.nds l ∧ Gn.cnts (Gn.sets l a) = Gn.cnts l ∧ (Gn.sets l a).map Gn.ptr = l.map Gn.ptr ∧ (Gn.oks l → Gn.oks (Gn.sets l a))
  | [], a => ⟨rfl, rfl, rfl, fun h => h⟩
  | x :: r, a => by
    obtain ⟨h1, h2, h3, h4⟩ := Gn.set_same x (aft (Gn.nds r) a)
    obtain ⟨g1, g2, g3, g4⟩ := Gn.sets_same r a
    refine ⟨?_, ?_, ?_, fun h => ?_⟩
    · rw [Gn.sets, Gn.nds, Gn.nds, h1, g1]
    · rw [Gn.sets, Gn.cnts, Gn.cnts, h2, g2]
    · rw [Gn.sets, List.map_cons, List.map_cons, g3]
      unfold Gn.ptr
      rw [h3]
    · rw [Gn.sets]
      simp only [Gn.oks] at h ⊢
      exact ⟨h4 h.1, g4 h.2⟩
end
theorem Gn.sets_len (l : List Gn) (a : Int) : (Gn.sets l a).length = l.length := by
  have := congrArg List.length (Gn.sets_same l a).2.2.1
  simpa using this
theorem Gn.pullM (A B : List Gn) (x : Gn) : (Gn.bls (A ++ x :: B)).Perm (x.bl ++ Gn.bls (A ++ B)) := by
  rw [Gn.bls_flat, Gn.bls_flat, List.flatMap_append, List.flatMap_cons, List.flatMap_append]
  exact List.perm_append_comm_assoc _ _ _
theorem aft_le : ∀ (l : List Gn), Gn.oks l → ∀ a : Int, 0 ≤ a → 0 ≤ aft (Gn.nds l) a ∧ aft (Gn.nds l) a ≤ a + 4000 * (Gn.cnts l : Int)
  | [], _, a, ha => by rw [Gn.nds, aft, Gn.cnts]; omega
  | x :: r, h, a, ha => by
    simp only [Gn.oks] at h
    have h1 := Gn.front_le x h.1
    have h2 := aft_le r h.2 a ha
    rw [Gn.nds, aft, Gn.cnts]
    unfold aft1
    split <;> omega
theorem Gn.oks_drop : ∀ {l : List Gn} {m : Nat}, Gn.oks l → Gn.oks (l.drop m)
  | [], m, h => by rw [List.drop_nil]; exact h
  | x :: r, 0, h => h
  | x :: r, m + 1, h => by
    simp only [Gn.oks] at h
    exact Gn.oks_drop (l := r) (m := m) h.2
/-- the list while it is gone through from its end -/
def Gn.half (l : List Gn) (y : Nat) (a : Int) : List Gn := l.take y ++ Gn.sets (l.drop y) a
theorem Gn.half_top (l : List Gn) (a : Int) : Gn.half l l.length a = l := by
  unfold Gn.half
  rw [List.take_length, List.drop_length]
  exact List.append_nil l
theorem Gn.half_zero (l : List Gn) (a : Int) : Gn.half l 0 a = Gn.sets l a := rfl
theorem Gn.cnts_drop_le : ∀ (l : List Gn) (m : Nat), Gn.cnts (l.drop m) ≤ Gn.cnts l
  | [], m => by rw [List.drop_nil]; exact Nat.le_refl _
  | x :: r, 0 => Nat.le_refl _
  | x :: r, m + 1 => by
    have := Gn.cnts_drop_le r m
    rw [List.drop_succ_cons, Gn.cnts]
    omega
set_option maxRecDepth 100000 in
set_option maxHeartbeats 8000000 in
theorem follow_ag : ∀ (n : Nat) (l : List Gn) (v : Value) (a : Int), Gn.cnts l ≤ n → n ≤ 10000 → Gn.oks l → 0 ≤ a → a + 4000 * (Gn.cnts l : Int) ≤ 80000000 → AG Try.prog 14 [.own 0 v, .c (.lit (.int .i64 a))] (.row v 63 1 l.length (l.map Gn.ptr) :: Gn.bls l) (fun r hs => r = .tup [] ∧ hs = .row v 63 1 l.length (l.map Gn.ptr) :: Gn.bls (Gn.sets l a))
  | n, l, v, a, hc, hn, hok, ha0, ha1 => by
    have hih : ∀ m, m < n → ∀ (l : List Gn) (v : Value) (a : Int), Gn.cnts l ≤ m → m ≤ 10000 → Gn.oks l → 0 ≤ a → a + 4000 * (Gn.cnts l : Int) ≤ 80000000 → AG Try.prog 14 [.own 0 v, .c (.lit (.int .i64 a))] (.row v 63 1 l.length (l.map Gn.ptr) :: Gn.bls l) (fun r hs => r = .tup [] ∧ hs = .row v 63 1 l.length (l.map Gn.ptr) :: Gn.bls (Gn.sets l a)) := fun m hm => follow_ag m
    refine ag_enter (1 + (Gn.bls (Gn.sets l a)).length) tok Try.func14 Try.ntmps14 Try.results14 rfl (by kernel_rfl) rfl fun F => ?_
    repeat (first | refine gG ?_ | refine zN1 (fun hlen => ?_) | refine zN2 (fun hlen => ?_) | refine zSub ?_)
    refine x_loop [1, 4, 5, 6, 10, 11, 12, 13, 14, 15, 16, 17, 18, 19, 20, 21, 22, 23, 24, 25, 26, 27, 28, 29, 30, 31, 32, 33, 34, 35, 36, 37, 38, 39, 40, 41, 42] (fun y : Nat => [(4, .c (.lit (.int .i64 ((y : Int) - 1)))), (1, .c (.lit (.int .i64 (aft (Gn.nds (l.drop y)) a))))]) (fun y => .row v 63 1 l.length (l.map Gn.ptr) :: Gn.bls (Gn.half l y a)) (fun y => y ≤ l.length) (fun y => y) l.length (Nat.le_refl _) ⟨rfl, by rw [List.drop_length]; rfl, trivial⟩ (by rw [Gn.half_top]) ?_
    rintro y hy
    cases y with
    | zero =>
      have c0 : decide ((0 : Int) ≤ ((0 : Nat) : Int) - 1) = false := rfl
      repeat (first | refine gG ?_ | refine zN1 (fun hlen => ?_) | refine zN2 (fun hlen => ?_) | refine zSub ?_)
      refine zGS (hq := .row v 63 1 l.length (l.map Gn.ptr) :: Gn.bls (Gn.sets l a)) (List.take_of_length_le (by rw [Gn.half_zero]; simp only [List.length_cons]; omega)) ⟨rfl, rfl⟩
    | succ m =>
      have hm : m < l.length := hy
      obtain ⟨x, hx⟩ := nth hm
      have hz1 : (((m + 1 : Nat) : Int) - 1) = ((m : Nat) : Int) := by omega
      have c0 : decide ((0 : Int) ≤ ((m + 1 : Nat) : Int) - 1) = true := decide_eq_true (by omega)
      have hd : l.drop m = x :: l.drop (m + 1) := drop_consG hx
      have hxo := Gn.oks_mem hok (List.mem_of_getElem? hx)
      have hxc := sum_memA (List.mem_of_getElem? hx)
      have hod := Gn.oks_drop (m := m + 1) hok
      have hal := aft_le _ hod a ha0
      have hcs := Gn.cnt_split hx
      have hcd := Gn.cnts_drop_le l m
      have hat := Gn.ptr_at hx
      have hfl := Gn.front_le x hxo
      have hnext : aft (Gn.nds (l.drop m)) a = if x.nd.front.2 = true then x.nd.front.1 else aft (Gn.nds (l.drop (m + 1))) a + x.nd.front.1 := by rw [hd, Gn.nds, aft]; rfl
      have hh1 : Gn.half l (m + 1) a = l.take m ++ x :: Gn.sets (l.drop (m + 1)) a := by
        unfold Gn.half
        rw [List.take_add_one, hx]
        simp
      have hh0 : Gn.half l m a = l.take m ++ x.set (aft (Gn.nds (l.drop (m + 1))) a) :: Gn.sets (l.drop (m + 1)) a := by
        unfold Gn.half
        rw [hd, Gn.sets]
      have hxs := Gn.set_same x (aft (Gn.nds (l.drop (m + 1))) a)
      have hfr := front_ag n (x.set (aft (Gn.nds (l.drop (m + 1))) a)) (by rw [hxs.2.1]; omega) hn (hxs.2.2.2 hxo)
      rw [hxs.1, hxs.2.2.1] at hfr
      rw [hh1]
      generalize aft (Gn.nds (l.drop (m + 1))) a = a' at *
      refine x_perm ((Gn.pullM (l.take m) (Gn.sets (l.drop (m + 1)) a) x).cons _) ?_
      have hback := (Gn.pullM (l.take m) (Gn.sets (l.drop (m + 1)) a) (x.set a')).symm.cons (.row v 63 1 l.length (l.map Gn.ptr))
      rw [← hh0] at hback
      generalize Gn.bls (l.take m ++ Gn.sets (l.drop (m + 1)) a) = R at *
      obtain ⟨b, p, v', a0, l'⟩ := x
      rw [Gn.cnt] at hcs hxc hfl
      simp only [Gn.ok] at hxo
      have hrec := hih (Gn.cnts l') (by omega) l' v' a' (Nat.le_refl _) (by omega) hxo.2.2 hal.1 (by omega)
      rw [Gn.set, Gn.bl] at hback hfr
      rw [Gn.bl]
      obtain ⟨ka, nu, s⟩ := p
      clear hih hh0 hh1 hd hod hxs hx
      rw [Gn.addr] at hfr
      rw [(Gn.sets_same l' a').2.2.1, Gn.sets_len] at hback hfr
      generalize (Gn.mk b ⟨ka, nu, s⟩ v' a0 l').nd.front = fr at *
      obtain ⟨fw, fi⟩ := fr
      dsimp only at hfl hnext hfr
      repeat (first | refine gG ?_ | refine zN1 (fun hlen => ?_) | refine zN2 (fun hlen => ?_) | refine zSub ?_)
      refine zIxo m hm ?_ (hz := hz1)
      repeat (first | refine gG ?_ | refine zN1 (fun hlen => ?_) | refine zN2 (fun hlen => ?_) | refine zSub ?_)
      refine lo_asp 1 (zElo1 hat ⟨b, 0, rfl, ?_⟩)
      repeat (first | refine gG ?_ | refine zN1 (fun hlen => ?_) | refine zN2 (fun hlen => ?_) | refine zSub ?_)
      refine zStT ?_
      repeat (first | refine gG ?_ | refine zN1 (fun hlen => ?_) | refine zN2 (fun hlen => ?_) | refine zSub ?_)
      refine zIxo m hm ?_ (hz := hz1)
      repeat (first | refine gG ?_ | refine zN1 (fun hlen => ?_) | refine zN2 (fun hlen => ?_) | refine zSub ?_)
      refine lo_asp 1 (zElo1 hat ⟨b, 0, rfl, ?_⟩)
      repeat (first | refine gG ?_ | refine zN1 (fun hlen => ?_) | refine zN2 (fun hlen => ?_) | refine zSub ?_)
      refine lo_frame (.row v' 63 1 l'.length (l'.map Gn.ptr) :: Gn.bls l') (.row v 63 1 l.length (l.map Gn.ptr) :: .box b 65 [.c (.lit (.int .i64 ka)), .c (.lit (.int .i64 nu)), .c (.lit (.string s)), .own 1 v', .c (.lit (.int .i64 a'))] :: R) permA (fun F' => ?_)
      refine zCallAll hrec (List.Perm.refl _) ?_
      rintro _ _ ⟨rfl, rfl⟩
      refine ⟨_, re_refl, ?_⟩
      repeat (first | refine gO ?_ | refine zN1 (fun hlen => ?_) | refine zN2 (fun hlen => ?_) | refine zSub ?_)
      refine x_perm (permA (a := .row v 63 1 l.length (l.map Gn.ptr)) (b := .box b 65 [.c (.lit (.int .i64 ka)), .c (.lit (.int .i64 nu)), .c (.lit (.string s)), .own 1 v', .c (.lit (.int .i64 a'))]) (c := .row v' 63 1 l'.length (l'.map Gn.ptr)) (X := Gn.bls (Gn.sets l' a')) (R := R)).symm ?_
      repeat (first | refine gG ?_ | refine zN1 (fun hlen => ?_) | refine zN2 (fun hlen => ?_) | refine zSub ?_)
      refine zIxo m hm ?_ (hz := hz1)
      repeat (first | refine gG ?_ | refine zN1 (fun hlen => ?_) | refine zN2 (fun hlen => ?_) | refine zSub ?_)
      refine lo_asp 1 (zElo1 hat ⟨b, 0, rfl, ?_⟩)
      repeat (first | refine gG ?_ | refine zN1 (fun hlen => ?_) | refine zN2 (fun hlen => ?_) | refine zSub ?_)
      refine lo_frame (.box b 65 [.c (.lit (.int .i64 ka)), .c (.lit (.int .i64 nu)), .c (.lit (.string s)), .own 1 v', .c (.lit (.int .i64 a'))] :: .row v' 63 1 l'.length (l'.map Gn.ptr) :: Gn.bls (Gn.sets l' a')) (.row v 63 1 l.length (l.map Gn.ptr) :: R) permB (fun F' => ?_)
      refine zCallAll hfr (List.Perm.refl _) ?_
      rintro _ _ ⟨rfl, rfl⟩
      refine ⟨_, re_refl, ?_⟩
      repeat (first | refine gO ?_ | refine zN1 (fun hlen => ?_) | refine zN2 (fun hlen => ?_) | refine zSub ?_)
      refine x_perm (permB.symm.trans hback) ?_
      cases fi with
      | true =>
        rw [if_pos rfl] at hnext
        replace hnext := fun _ : Unit => hnext
        repeat (first | refine gG ?_ | refine zN1 (fun hlen => ?_) | refine zN2 (fun hlen => ?_) | refine zSub ?_)
        exact ⟨m, Nat.le_of_lt hm, Nat.lt_succ_self m, x_wk ⟨by rw [← hz1]; rfl, by rw [hnext ()]; rfl, trivial⟩ rfl (by repeat (first | exact ag_refl | refine ag_upd rfl ?_ | refine ag_at rfl rfl ?_))⟩
      | false =>
        rw [if_neg (by decide)] at hnext
        replace hnext := fun _ : Unit => hnext
        repeat (first | refine gG ?_ | refine zN1 (fun hlen => ?_) | refine zN2 (fun hlen => ?_) | refine zSub ?_)
        refine lo_add rfl rfl (r := a' + fw) (by show IntKind.wrap .i64 (a' + fw) = a' + fw; rw [IntWalk.i64_in _ (by omega)]) ?_
        repeat (first | refine gG ?_ | refine zN1 (fun hlen => ?_) | refine zN2 (fun hlen => ?_) | refine zSub ?_)
        exact ⟨m, Nat.le_of_lt hm, Nat.lt_succ_self m, x_wk ⟨by rw [← hz1]; rfl, by rw [hnext ()]; rfl, trivial⟩ rfl (by repeat (first | exact ag_refl | refine ag_upd rfl ?_ | refine ag_at rfl rfl ?_))⟩
end Go.Proofs.Ytgjfiedepfjdcaa
