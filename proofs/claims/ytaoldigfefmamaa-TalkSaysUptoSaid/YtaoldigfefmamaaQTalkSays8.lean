/-
  Texts of this proof, part 8: Wtd Wte Wtf Wtg.
-/
import Derived.Test.YtaoldigfefmamaaQTalkSays7
import Derived.Laws.IdiomRangeMap
import Derived.Lib.AppendStr
namespace Go.Proofs.Ytaoldigfefmamaa
open Go.RowKit
theorem take_snoc1 {α : Type} {l : List α} {k : Nat} {a : α} (h : l[k]? = some a) : l.take (k + 1) = l.take k ++ [a] := by
  obtain ⟨h1, rfl⟩ := List.getElem?_eq_some_iff.1 h
  exact List.take_succ_eq_append_getElem h1
def onTo (r : List Dd) (i : Int) (k : Nat) : List Dd := (r.take k).filter fun d => decide (d.line = i)
theorem onTo_yes {r : List Dd} {i : Int} {k : Nat} {d : Dd} (h : r[k]? = some d) (hp : decide (d.line = i) = true) : onTo r i (k + 1) = onTo r i k ++ [d] := by
  unfold onTo
  rw [take_snoc1 h, List.filter_append]
  simp [of_decide_eq_true hp]
theorem onTo_no {r : List Dd} {i : Int} {k : Nat} {d : Dd} (h : r[k]? = some d) (hp : decide (d.line = i) = false) : onTo r i (k + 1) = onTo r i k := by
  unfold onTo
  rw [take_snoc1 h, List.filter_append]
  simp [of_decide_eq_false hp]
theorem onTo_len (r : List Dd) (i : Int) (k : Nat) : (onTo r i k).length ≤ r.length := by
  unfold onTo
  exact Nat.le_trans (List.length_filter_le _ _) (by rw [List.length_take]; omega)
theorem onTo_all {ws : List (List Dd)} {w : Nat} {r : List Dd} (h : ws[w]? = some r) (i : Nat) : onTo r (i : Int) r.length = onL ws (w : Int) i := by
  unfold onTo onL
  rw [List.take_length, Int.toNat_natCast, h]; rfl
set_option maxRecDepth 100000 in
set_option maxHeartbeats 2000000 in
theorem on_af (n : Nt) (w i : Nat) (r : List Dd) (hw : n.who[w]? = some r) (h40 : r.length ≤ 40) : AF Try.prog 23 [n.t, .lit (.int .i64 (w : Nat)), .lit (.int .i64 (i : Nat))] (· = ddRow (onL n.who (w : Int) i)) := by
  obtain ⟨ls, ws⟩ := n
  dsimp only at hw ⊢
  have hwl : w < ws.length := (List.getElem?_eq_some_iff.1 hw).1
  have hwt := who_at hw
  have hT := onTo_all hw i
  have hlT := onTo_len r (i : Int)
  have h0 : onTo r (i : Int) 0 = [] := rfl
  generalize onL ws (w : Int) i = R at *
  refine af_enter tok Try.func23 Try.ntmps23 Try.results23 rfl (by kernel_rfl) rfl rfl fun F hX => ?_
  repeat (first | refine gG ?_ | refine zN1 (fun hlen => ?_) | refine zN2 (fun hlen => ?_) | refine zAl (fun _ => ?_) | refine zBf ?_ | refine zAp (fun _ => ?_))
  refine zIx w hwl ?_
  repeat (first | refine gG ?_ | refine zN1 (fun hlen => ?_) | refine zN2 (fun hlen => ?_) | refine zAl (fun _ => ?_) | refine zBf ?_ | refine zAp (fun _ => ?_))
  refine zEl1 hwt ?_
  repeat (first | refine gG ?_ | refine zN1 (fun hlen => ?_) | refine zN2 (fun hlen => ?_) | refine zAl (fun _ => ?_) | refine zBf ?_ | refine zAp (fun _ => ?_))
  refine x_own 7 45 3 rfl rfl rfl rfl rfl ?_
  refine x_loop [7, 9, 16, 17, 18, 19, 20, 21, 22, 23, 24, 25, 26, 27, 28] (fun y : Nat × Value => [(16, .c (.lit (.int .i64 (y.1 : Nat)))), (7, .own 0 y.2)]) (fun y => [.row y.2 45 3 (onTo r (i : Int) y.1).length ((onTo r (i : Int) y.1).flatMap Dd.ts)]) (fun y => y.1 ≤ r.length) (fun y => r.length - y.1) (0, .slice none 0 0) (Nat.zero_le _) ⟨rfl, rfl, trivial⟩ (by simp only [h0]; rfl) ?_
  rintro ⟨k, v⟩ hk
  dsimp only at hk ⊢
  have hlk := hlT k
  repeat (first | refine gG ?_ | refine zN1 (fun hlen => ?_) | refine zN2 (fun hlen => ?_) | refine zAl (fun _ => ?_) | refine zBf ?_ | refine zAp (fun _ => ?_))
  refine x_cond rfl (fun h => ?_) (fun h => ?_)
  · have hk' : k < r.length := by simpa using h
    obtain ⟨d, hd⟩ := nth hk'
    have hdt := flat_at Dd.ts 3 Dd.ts_len hd
    have hy := @onTo_yes r (i : Int) k d hd
    have hn := @onTo_no r (i : Int) k d hd
    clear h hd hT hlT h0
    obtain ⟨dl, ds, dm⟩ := d
    dsimp only at hy hn
    cases d1 : decide (dl = ((i : Nat) : Int))
    · replace hn := hn d1
      clear hy
      repeat (first | refine gG ?_ | refine zN1 (fun hlen => ?_) | refine zN2 (fun hlen => ?_) | refine zAl (fun _ => ?_) | refine zBf ?_ | refine zAp (fun _ => ?_))
      refine zIx (k) (hk') ?_
      repeat (first | refine gG ?_ | refine zN1 (fun hlen => ?_) | refine zN2 (fun hlen => ?_) | refine zAl (fun _ => ?_) | refine zBx (fun _ => ?_) | refine zAp (fun _ => ?_))
      refine zEl (hdt) (Dd.ts_len _) ?_
      repeat (first | refine gG ?_ | refine zN1 (fun hlen => ?_) | refine zN2 (fun hlen => ?_) | refine zAl (fun _ => ?_) | refine zBf ?_ | refine zAp (fun _ => ?_))
      exact ⟨(k + 1, v), hk', by simp only; omega, x_wkd 1 ⟨rfl, rfl, trivial⟩ (by simp only [hn]; rfl) (by repeat (first | exact ag_refl | refine ag_upd rfl ?_ | refine ag_at rfl rfl ?_))⟩
    · replace hy := hy d1
      clear hn
      repeat (first | refine gG ?_ | refine zN1 (fun hlen => ?_) | refine zN2 (fun hlen => ?_) | refine zAl (fun _ => ?_) | refine zBf ?_ | refine zAp (fun _ => ?_))
      refine zIx (k) (hk') ?_
      repeat (first | refine gG ?_ | refine zN1 (fun hlen => ?_) | refine zN2 (fun hlen => ?_) | refine zAl (fun _ => ?_) | refine zBx (fun _ => ?_) | refine zAp (fun _ => ?_))
      refine zEl (hdt) (Dd.ts_len _) ?_
      repeat (first | refine gG ?_ | refine zN1 (fun hlen => ?_) | refine zN2 (fun hlen => ?_) | refine zAl (fun _ => ?_) | refine zBf ?_ | refine zAp (fun _ => ?_))
      exact ⟨(k + 1, _), hk', by simp only; omega, x_wkd 1 ⟨rfl, rfl, trivial⟩ (by simp only [hy, List.flatMap_append, List.length_append]; rfl) (by repeat (first | exact ag_refl | refine ag_upd rfl ?_ | refine ag_at rfl rfl ?_))⟩
  · have hk' : k = r.length := Nat.le_antisymm hk (Nat.le_of_not_lt (by simpa using h))
    subst hk'
    clear h hlT h0
    repeat (first | refine gG ?_ | refine zN1 (fun hlen => ?_) | refine zN2 (fun hlen => ?_) | refine zAl (fun _ => ?_) | refine zBf ?_ | refine zAp (fun _ => ?_))
    first | refine zR (ts := [ddRow (onTo r (i : Int) r.length)]) ?_ | refine zQ (ts := [ddRow (onTo r (i : Int) r.length)]) ?_
    rw [hT]; rfl
set_option maxRecDepth 100000 in
set_option maxHeartbeats 1000000 in
theorem meet_af (x y : Dd) : AF Try.prog 24 [.agg x.ts, .agg y.ts] (· = .lit (.bool (meetB x y))) := by
  obtain ⟨l, s, m⟩ := x
  obtain ⟨l', s', m'⟩ := y
  refine af_enter tok Try.func24 Try.ntmps24 Try.results24 rfl (by kernel_rfl) rfl rfl fun F hX => ?_
  cases d1 : decide (m = m')
  · repeat (first | refine gG ?_ | refine zBf ?_)
    first | refine zR ?_ | refine zQ ?_
    simp [meetB, d1, outT]
  · repeat (first | refine gG ?_ | refine zBf ?_)
    refine zB6 ?_
    repeat (first | refine gG ?_ | refine zBf ?_)
    first | refine zR ?_ | refine zQ ?_
    simp [meetB, d1, outT]
set_option maxRecDepth 100000 in
set_option maxHeartbeats 1000000 in
theorem eqDds_af (p : Dd → Dd → Bool) (f : FuncId) (l r : List Dd) (hf : ∀ a ∈ l, ∀ b ∈ r, AF Try.prog f [.agg a.ts, .agg b.ts] (· = .lit (.bool (p a b)))) :
    AF Try.prog 22 [ddRow l, ddRow r, .fn (.func f) []] (· = .lit (.bool (eqW p l r))) := by
  refine af_enter tok Try.func22 Try.ntmps22 Try.results22 rfl (by kernel_rfl) rfl rfl fun F hX => ?_
  repeat (first | refine gG ?_ | refine zN1 (fun hlen => ?_) | refine zN2 (fun hlen => ?_) | refine zAl (fun _ => ?_))
  refine x_cond rfl (fun h => ?_) (fun h => ?_)
  · repeat (first | refine gG ?_ | refine zN1 (fun hlen => ?_) | refine zN2 (fun hlen => ?_) | refine zAl (fun _ => ?_))
    first | refine zR ?_ | refine zQ ?_
    have : l.length ≠ r.length := by have := h; simp at this; omega
    rw [eqW_len this]
    rfl
  · have hlr : l.length = r.length := by have := h; simp at this; omega
    repeat (first | refine gG ?_ | refine zN1 (fun hlen => ?_) | refine zN2 (fun hlen => ?_) | refine zAl (fun _ => ?_))
    refine x_loop [6, 7, 8, 9, 17, 18, 19, 20, 21, 22, 23, 24, 25, 26, 27, 28, 29, 30, 31] (fun k : Nat => [(17, .c (.lit (.int .i64 k)))]) (fun _ => []) (fun k => k ≤ l.length ∧ eqW p l r = eqW p (l.drop k) (r.drop k)) (fun k => l.length - k) 0 ⟨Nat.zero_le _, rfl⟩ ⟨rfl, trivial⟩ rfl fun k hk => ?_
    repeat (first | refine gG ?_ | refine zN1 (fun hlen => ?_) | refine zN2 (fun hlen => ?_) | refine zAl (fun _ => ?_))
    refine x_cond rfl (fun h => ?_) (fun h => ?_)
    · have hk' : k < l.length := by simpa using h
      obtain ⟨a, ha⟩ := nth hk'
      obtain ⟨b, hb⟩ := nth (hlr ▸ hk' : k < r.length)
      have hp := hf a (List.mem_of_getElem? ha) b (List.mem_of_getElem? hb)
      have hstep : eqW p (l.drop k) (r.drop k) = (p a b && eqW p (l.drop (k + 1)) (r.drop (k + 1))) := eqW_step ha hb
      repeat (first | refine gG ?_ | refine zN1 (fun hlen => ?_) | refine zN2 (fun hlen => ?_) | refine zAl (fun _ => ?_))
      refine zIx (k) (hk') ?_
      repeat (first | refine gG ?_ | refine zN1 (fun hlen => ?_) | refine zN2 (fun hlen => ?_) | refine zAl (fun _ => ?_))
      refine zEl (flat_at Dd.ts 3 Dd.ts_len ha) (Dd.ts_len a) ?_
      generalize hpq : p a b = pq at *
      obtain ⟨kd, ka, na⟩ := a
      obtain ⟨kd', kb, nb⟩ := b
      repeat (first | refine gG ?_ | refine zN1 (fun hlen => ?_) | refine zN2 (fun hlen => ?_) | refine zAl (fun _ => ?_))
      refine zIx (k) (hlr ▸ hk') ?_
      repeat (first | refine gG ?_ | refine zN1 (fun hlen => ?_) | refine zN2 (fun hlen => ?_) | refine zAl (fun _ => ?_))
      refine zEl (flat_at Dd.ts 3 Dd.ts_len hb) (Dd.ts_len _) ?_
      repeat (first | refine gG ?_ | refine zN1 (fun hlen => ?_) | refine zN2 (fun hlen => ?_) | refine zAl (fun _ => ?_))
      refine zCallc (hp) ?_
      rintro _ rfl
      repeat (first | refine gG ?_ | refine zN1 (fun hlen => ?_) | refine zN2 (fun hlen => ?_) | refine zAl (fun _ => ?_))
      refine x_cond rfl (fun h => ?_) (fun h => ?_)
      · repeat (first | refine gG ?_ | refine zN1 (fun hlen => ?_) | refine zN2 (fun hlen => ?_) | refine zAl (fun _ => ?_))
        first | refine zR ?_ | refine zQ ?_
        have hq : pq = false := by simpa using h
        rw [hk.2, hstep, hq]
        rfl
      · repeat (first | refine gG ?_ | refine zN1 (fun hlen => ?_) | refine zN2 (fun hlen => ?_) | refine zAl (fun _ => ?_))
        have hq : pq = true := by simpa using h
        exact ⟨k + 1, ⟨hk', by rw [hk.2, hstep, hq, Bool.true_and]⟩, by omega, x_wkd 0 ⟨rfl, trivial⟩ rfl (by repeat (first | exact ag_refl | refine ag_upd rfl ?_ | refine ag_at rfl rfl ?_))⟩
    · have hk' : k = l.length := by have : ¬ k < l.length := by simpa using h
                                    omega
      repeat (first | refine gG ?_ | refine zN1 (fun hlen => ?_) | refine zN2 (fun hlen => ?_) | refine zAl (fun _ => ?_))
      first | refine zR ?_ | refine zQ ?_
      rw [hk.2, hk', List.drop_length, hlr, List.drop_length]
      rfl
theorem range_at {m k : Nat} (h : k < m) : (List.range m)[k]? = some k := by rw [List.getElem?_range h]
set_option maxRecDepth 100000 in
set_option maxHeartbeats 2000000 in
theorem dual_af (n : Nt) : AF Try.prog 5 [n.t] (· = .tup [.lit (.int .i64 (if netE n = 0 then dualR n else 0)), .lit (.int .i64 (netE n))]) := by
  have hc := check_af n
  by_cases hz : netE n = 0
  · rw [if_pos hz]
    have hok := netE_ok hz
    rw [hz] at hc ⊢
    have hon : ∀ (w i : Nat), w < n.who.length → AF Try.prog 23 [n.t, .lit (.int .i64 (w : Nat)), .lit (.int .i64 (i : Nat))] (· = ddRow (onL n.who (w : Int) i)) := fun w i hw => by
      obtain ⟨r, hr⟩ := nth hw
      exact on_af n w i r hr (hok.dd40 hr)
    have heq := fun l r => eqDds_af meetB 24 l r (fun a _ b _ => meet_af a b)
    have hln := @hok.ln
    have hB : ∀ i l, n.lines[i]? = some l → dualB n i = !eqW meetB (onL n.who l.a i) (onL n.who l.b i) := fun i l h => by unfold dualB; rw [lnAt_eq h]
    have hD0 := idxAt_zero (dualB n) (List.range n.lines.length)
    have hDn := fun k (hk : k < n.lines.length) => @idxAt_no _ (dualB n) (List.range n.lines.length) k k
    have hDy := fun k (hk : k < n.lines.length) => @idxAt_yes _ (dualB n) (List.range n.lines.length) k k
    have hDe := @idxAt_end _ (dualB n) (List.range n.lines.length)
    unfold dualR
    rw [List.length_range] at hDe
    generalize idxI (dualB n) (List.range n.lines.length) = R at *
    generalize dualB n = dB at *
    obtain ⟨ls, ws⟩ := n
    clear hok hz
    dsimp only at *
    refine af_enter tok Try.func5 Try.ntmps5 Try.results5 rfl (by kernel_rfl) rfl rfl fun F hX => ?_
    repeat (first | refine gG ?_ | refine zN1 (fun hlen => ?_) | refine zN2 (fun hlen => ?_) | refine zAl (fun _ => ?_) | refine zBf ?_)
    refine zCall (hc) ?_
    rintro _ rfl
    repeat (first | refine gG ?_ | refine zN1 (fun hlen => ?_) | refine zN2 (fun hlen => ?_) | refine zAl (fun _ => ?_) | refine zBf ?_)
    refine x_loop [2, 3, 5, 6, 15, 16, 17, 18, 19, 20, 21, 22, 23, 24, 25, 26, 27, 28, 29, 30, 31, 32, 33] (fun k : Nat => [(15, .c (.lit (.int .i64 (k : Nat))))]) (fun _ => []) (fun k => k ≤ ls.length ∧ idxAt dB (List.range ls.length) k) (fun k => ls.length - k) 0 ⟨Nat.zero_le _, hD0⟩ ⟨rfl, trivial⟩ rfl ?_
    rintro k ⟨hk, hI⟩
    repeat (first | refine gG ?_ | refine zN1 (fun hlen => ?_) | refine zN2 (fun hlen => ?_) | refine zAl (fun _ => ?_) | refine zBf ?_)
    refine x_cond rfl (fun h => ?_) (fun h => ?_)
    · have hk' : k < ls.length := by simpa using h
      obtain ⟨l, hl⟩ := nth hk'
      have hlt := flat_at Ln.ts 2 Ln.ts_len hl
      obtain ⟨l1, l2, l3, l4, l5⟩ := hln hl
      have hb := hB k l hl
      have hDn1 := hDn k hk' hI (range_at hk')
      have hDy1 := hDy k hk' hI (range_at hk')
      clear h hl hB hI hDn hDy hDe hD0 hc hln
      obtain ⟨la, lb⟩ := l
      dsimp only at l1 l2 l3 l4 l5 hb
      obtain ⟨a, rfl⟩ : ∃ a : Nat, la = (a : Int) := ⟨la.toNat, by omega⟩
      obtain ⟨b, rfl⟩ : ∃ b : Nat, lb = (b : Int) := ⟨lb.toNat, by omega⟩
      have c1 := hon a k (by omega)
      have c2 := hon b k (by omega)
      have c3 := heq (onL ws (a : Int) k) (onL ws (b : Int) k)
      clear hon heq
      generalize onL ws (a : Int) k = A at *
      generalize onL ws (b : Int) k = B at *
      cases hv : eqW meetB A B
      · rw [hv] at hb c3
        have hr := hDy1 (by rw [hb]; rfl)
        rw [hr]
        clear hDn1 hDy1 hb hv hr
        repeat (first | refine gG ?_ | refine zN1 (fun hlen => ?_) | refine zN2 (fun hlen => ?_) | refine zAl (fun _ => ?_) | refine zBf ?_)
        refine zIx (k) (hk') ?_
        repeat (first | refine gG ?_ | refine zN1 (fun hlen => ?_) | refine zN2 (fun hlen => ?_) | refine zAl (fun _ => ?_) | refine zBx (fun _ => ?_))
        refine zEl (hlt) (Ln.ts_len _) ?_
        repeat (first | refine gG ?_ | refine zN1 (fun hlen => ?_) | refine zN2 (fun hlen => ?_) | refine zAl (fun _ => ?_) | refine zBf ?_)
        refine ac_draw [1, 1, 1, 1, 1, 1, 1, 1, 1, 1, 1, 1] [0, 1, 2, 3, 4, 5, 6, 7, 8, 9, 10, 11] (by kernel_rfl) (by kernel_rfl) ?_
        refine gW ?_
        apply w_q; (focus exact rfl); (focus exact rfl); focus (intro _; (refine zCall c1 ?_; rintro _ rfl); exact det_refl)
        refine gW ?_
        apply w_q; (focus exact rfl); (focus exact rfl); focus (intro _; (refine zCall c2 ?_; rintro _ rfl); exact det_refl)
        apply w_q; (focus exact rfl); (focus exact rfl); focus (intro _; (refine zCall c3 ?_; rintro _ rfl); exact det_refl)
        refine gW ?_
        refine w_nil ?_
        repeat (first | refine gG ?_ | refine zN1 (fun hlen => ?_) | refine zN2 (fun hlen => ?_) | refine zAl (fun _ => ?_) | refine zBf ?_)
        first | refine zR (ts := [.lit (.int .i64 (k : Nat)), .lit (.int .i64 0)]) ?_ | refine zQ (ts := [.lit (.int .i64 (k : Nat)), .lit (.int .i64 0)]) ?_
        rfl
      · rw [hv] at hb c3
        have hr := hDn1 (by rw [hb]; rfl)
        clear hDn1 hDy1 hb hv
        repeat (first | refine gG ?_ | refine zN1 (fun hlen => ?_) | refine zN2 (fun hlen => ?_) | refine zAl (fun _ => ?_) | refine zBf ?_)
        refine zIx (k) (hk') ?_
        repeat (first | refine gG ?_ | refine zN1 (fun hlen => ?_) | refine zN2 (fun hlen => ?_) | refine zAl (fun _ => ?_) | refine zBx (fun _ => ?_))
        refine zEl (hlt) (Ln.ts_len _) ?_
        repeat (first | refine gG ?_ | refine zN1 (fun hlen => ?_) | refine zN2 (fun hlen => ?_) | refine zAl (fun _ => ?_) | refine zBf ?_)
        refine ac_draw [1, 1, 1, 1, 1, 1, 1, 1, 1, 1, 1, 1] [0, 1, 2, 3, 4, 5, 6, 7, 8, 9, 10, 11] (by kernel_rfl) (by kernel_rfl) ?_
        refine gW ?_
        apply w_q; (focus exact rfl); (focus exact rfl); focus (intro _; (refine zCall c1 ?_; rintro _ rfl); exact det_refl)
        refine gW ?_
        apply w_q; (focus exact rfl); (focus exact rfl); focus (intro _; (refine zCall c2 ?_; rintro _ rfl); exact det_refl)
        apply w_q; (focus exact rfl); (focus exact rfl); focus (intro _; (refine zCall c3 ?_; rintro _ rfl); exact det_refl)
        refine gW ?_
        refine w_nil ?_
        repeat (first | refine gG ?_ | refine zN1 (fun hlen => ?_) | refine zN2 (fun hlen => ?_) | refine zAl (fun _ => ?_) | refine zBf ?_)
        exact ⟨k + 1, ⟨hk', hr⟩, by omega, x_wkd 0 ⟨rfl, trivial⟩ rfl (by repeat (first | exact ag_refl | refine ag_upd rfl ?_ | refine ag_at rfl rfl ?_))⟩
    · have hk' : k = ls.length := Nat.le_antisymm hk (Nat.le_of_not_lt (by simpa using h))
      subst hk'
      have hr := hDe hI
      rw [hr]
      clear h hI hB hDn hDy hDe hD0 hc hln hon heq hr
      repeat (first | refine gG ?_ | refine zN1 (fun hlen => ?_) | refine zN2 (fun hlen => ?_) | refine zAl (fun _ => ?_) | refine zBf ?_)
      first | refine zR (ts := [.lit (.int .i64 (-1)), .lit (.int .i64 0)]) ?_ | refine zQ (ts := [.lit (.int .i64 (-1)), .lit (.int .i64 0)]) ?_
      rfl
  · rw [if_neg hz]
    have d0 : decide (netE n = 0) = false := decide_eq_false hz
    generalize netE n = e at *
    obtain ⟨ls, ws⟩ := n
    refine af_enter tok Try.func5 Try.ntmps5 Try.results5 rfl (by kernel_rfl) rfl rfl fun F hX => ?_
    repeat (first | refine gG ?_ | refine zN1 (fun hlen => ?_) | refine zN2 (fun hlen => ?_) | refine zAl (fun _ => ?_) | refine zBf ?_)
    refine zCall (hc) ?_
    rintro _ rfl
    repeat (first | refine gG ?_ | refine zN1 (fun hlen => ?_) | refine zN2 (fun hlen => ?_) | refine zAl (fun _ => ?_) | refine zBf ?_)
    first | refine zR (ts := [.lit (.int .i64 0), .lit (.int .i64 e)]) ?_ | refine zQ (ts := [.lit (.int .i64 0), .lit (.int .i64 e)]) ?_
    rfl
end Go.Proofs.Ytaoldigfefmamaa
namespace Go.Proofs.Ytaoldigfefmamaa
open Go.RowKit
def sgv (z : Int) (d : Dd) : Int := z * (2 * sgn d.send - 1) * (d.msg + 1)
def sgTo (r : List Dd) (i z : Int) (k : Nat) : List Int := (onTo r i k).map (sgv z)
theorem sgTo_yes {r : List Dd} {i z : Int} {k : Nat} {d : Dd} (h : r[k]? = some d) (hp : decide (d.line = i) = true) : sgTo r i z (k + 1) = sgTo r i z k ++ [sgv z d] := by
  unfold sgTo
  rw [onTo_yes h hp, List.map_append]; rfl
theorem sgTo_no {r : List Dd} {i z : Int} {k : Nat} {d : Dd} (h : r[k]? = some d) (hp : decide (d.line = i) = false) : sgTo r i z (k + 1) = sgTo r i z k := by
  unfold sgTo
  rw [onTo_no h hp]
theorem sgTo_len (r : List Dd) (i z : Int) (k : Nat) : (sgTo r i z k).length ≤ r.length := by
  unfold sgTo
  rw [List.length_map]
  exact onTo_len r i k
set_option maxRecDepth 100000 in
set_option maxHeartbeats 2000000 in
theorem onLine_af (n : Nt) (w i : Nat) (z : Int) (hz : z = 1 ∨ z = -1) (r : List Dd) (hw : n.who[w]? = some r) (h40 : r.length ≤ 40) (hm : ∀ d ∈ r, 0 ≤ d.msg ∧ d.msg ≤ 20) : AF Try.prog 30 [n.t3, .lit (.int .i64 (w : Nat)), .lit (.int .i64 (i : Nat)), .lit (.int .i64 z)] (· = nRow ((onL n.who (w : Int) i).map (sgv z))) := by
  obtain ⟨ls, ws⟩ := n
  dsimp only at hw ⊢
  have hwl : w < ws.length := (List.getElem?_eq_some_iff.1 hw).1
  have hwt := who_at3 hw
  have hT : sgTo r (i : Int) z r.length = (onL ws (w : Int) i).map (sgv z) := by unfold sgTo; rw [onTo_all hw i]
  have hlT := sgTo_len r (i : Int) z
  have h0 : sgTo r (i : Int) z 0 = [] := rfl
  generalize (onL ws (w : Int) i).map (sgv z) = R at *
  refine af_enter tok Try.func30 Try.ntmps30 Try.results30 rfl (by kernel_rfl) rfl rfl fun F hX => ?_
  repeat (first | refine gG ?_ | refine zN1 (fun hlen => ?_) | refine zN2 (fun hlen => ?_) | refine zAl (fun _ => ?_) | refine zBf ?_ | refine zAp (fun _ => ?_))
  refine zIx w hwl ?_
  repeat (first | refine gG ?_ | refine zN1 (fun hlen => ?_) | refine zN2 (fun hlen => ?_) | refine zAl (fun _ => ?_) | refine zBf ?_ | refine zAp (fun _ => ?_))
  refine zEl1 hwt ?_
  repeat (first | refine gG ?_ | refine zN1 (fun hlen => ?_) | refine zN2 (fun hlen => ?_) | refine zAl (fun _ => ?_) | refine zBf ?_ | refine zAp (fun _ => ?_))
  refine x_own 9 3 1 rfl rfl rfl rfl rfl ?_
  refine x_loop [9, 11, 18, 19, 20, 21, 22, 23, 24, 25, 26, 27, 28, 29, 30, 31, 32, 33, 34, 35, 36, 37, 38, 39] (fun y : Nat × Value => [(18, .c (.lit (.int .i64 (y.1 : Nat)))), (9, .own 0 y.2)]) (fun y => [.row y.2 3 1 (sgTo r (i : Int) z y.1).length ((sgTo r (i : Int) z y.1).flatMap nTs)]) (fun y => y.1 ≤ r.length) (fun y => r.length - y.1) (0, .slice none 0 0) (Nat.zero_le _) ⟨rfl, rfl, trivial⟩ (by simp only [h0]; rfl) ?_
  rintro ⟨k, v⟩ hk
  dsimp only at hk ⊢
  have hlk := hlT k
  repeat (first | refine gG ?_ | refine zN1 (fun hlen => ?_) | refine zN2 (fun hlen => ?_) | refine zAl (fun _ => ?_) | refine zBf ?_ | refine zAp (fun _ => ?_))
  refine x_cond rfl (fun h => ?_) (fun h => ?_)
  · have hk' : k < r.length := by simpa using h
    obtain ⟨d, hd⟩ := nth hk'
    have hdt := flat_at Dd.ts3 3 Dd.ts3_len hd
    have hy := @sgTo_yes r (i : Int) z k d hd
    have hn := @sgTo_no r (i : Int) z k d hd
    obtain ⟨m1, m2⟩ := hm d (List.mem_of_getElem? hd)
    clear h hd hT hlT h0 hm
    obtain ⟨dl, ds, dm⟩ := d
    dsimp only at hy hn m1 m2
    have hsv : sgv z ⟨dl, ds, dm⟩ = z * (2 * sgn ds - 1) * (dm + 1) := rfl
    have hs01 : 0 ≤ sgn ds ∧ sgn ds ≤ 1 := by cases ds <;> simp [sgn]
    have hr1 : -1 ≤ z * (2 * sgn ds - 1) ∧ z * (2 * sgn ds - 1) ≤ 1 := by rcases hz with rfl | rfl <;> cases ds <;> simp [sgn]
    have hr2 : -21 ≤ z * (2 * sgn ds - 1) * (dm + 1) ∧ z * (2 * sgn ds - 1) * (dm + 1) ≤ 21 := by rcases hz with rfl | rfl <;> cases ds <;> simp [sgn] <;> omega
    rw [hsv] at hy
    cases d1 : decide (dl = ((i : Nat) : Int))
    · replace hn := hn d1
      clear hy
      repeat (first | refine zIxb 0 ?_ | refine zIxb 1 ?_ | refine zIxb 2 ?_ | refine gG ?_ | refine zN1 (fun hlen => ?_) | refine zN2 (fun hlen => ?_) | refine zAl (fun _ => ?_) | refine zBf ?_ | refine zAp (fun _ => ?_))
      refine zIx (k) (hk') ?_
      repeat (first | refine gG ?_ | refine zN1 (fun hlen => ?_) | refine zN2 (fun hlen => ?_) | refine zAl (fun _ => ?_) | refine zBx (fun _ => ?_) | refine zAp (fun _ => ?_))
      refine zEl (hdt) (Dd.ts3_len _) ?_
      repeat (first | refine zIxb 0 ?_ | refine zIxb 1 ?_ | refine zIxb 2 ?_ | refine gG ?_ | refine zN1 (fun hlen => ?_) | refine zN2 (fun hlen => ?_) | refine zAl (fun _ => ?_) | refine zBf ?_ | refine zAp (fun _ => ?_))
      exact ⟨(k + 1, v), hk', by simp only; omega, x_wkd 1 ⟨rfl, rfl, trivial⟩ (by simp only [hn]; rfl) (by repeat (first | exact ag_refl | refine ag_upd rfl ?_ | refine ag_at rfl rfl ?_))⟩
    · replace hy := hy d1
      clear hn
      repeat (first | refine zIxb 0 ?_ | refine zIxb 1 ?_ | refine zIxb 2 ?_ | refine gG ?_ | refine zN1 (fun hlen => ?_) | refine zN2 (fun hlen => ?_) | refine zAl (fun _ => ?_) | refine zBf ?_ | refine zAp (fun _ => ?_))
      refine zIx (k) (hk') ?_
      repeat (first | refine gG ?_ | refine zN1 (fun hlen => ?_) | refine zN2 (fun hlen => ?_) | refine zAl (fun _ => ?_) | refine zBx (fun _ => ?_) | refine zAp (fun _ => ?_))
      refine zEl (hdt) (Dd.ts3_len _) ?_
      repeat (first | refine zIxb 0 ?_ | refine zIxb 1 ?_ | refine zIxb 2 ?_ | refine gG ?_ | refine zN1 (fun hlen => ?_) | refine zN2 (fun hlen => ?_) | refine zAl (fun _ => ?_) | refine zBf ?_ | refine zAp (fun _ => ?_))
      refine lo_mul rfl rfl (r := 2 * sgn ds) (by show IntKind.wrap .i64 (2 * sgn ds) = 2 * sgn ds; rw [IntWalk.i64_in _ (by omega)]) ?_
      repeat (first | refine zIxb 0 ?_ | refine zIxb 1 ?_ | refine zIxb 2 ?_ | refine gG ?_ | refine zN1 (fun hlen => ?_) | refine zN2 (fun hlen => ?_) | refine zAl (fun _ => ?_) | refine zBf ?_ | refine zAp (fun _ => ?_))
      refine lo_sub rfl rfl (r := 2 * sgn ds - 1) (by rw [IntWalk.i64_in _ (by omega)]) ?_
      repeat (first | refine zIxb 0 ?_ | refine zIxb 1 ?_ | refine zIxb 2 ?_ | refine gG ?_ | refine zN1 (fun hlen => ?_) | refine zN2 (fun hlen => ?_) | refine zAl (fun _ => ?_) | refine zBf ?_ | refine zAp (fun _ => ?_))
      refine lo_mul rfl rfl (r := z * (2 * sgn ds - 1)) (by rw [IntWalk.i64_in _ (by omega)]) ?_
      repeat (first | refine zIxb 0 ?_ | refine zIxb 1 ?_ | refine zIxb 2 ?_ | refine gG ?_ | refine zN1 (fun hlen => ?_) | refine zN2 (fun hlen => ?_) | refine zAl (fun _ => ?_) | refine zBf ?_ | refine zAp (fun _ => ?_))
      refine lo_add rfl rfl (r := dm + 1) (by show IntKind.wrap .i64 (dm + 1) = dm + 1; rw [IntWalk.i64_in _ (by omega)]) ?_
      repeat (first | refine zIxb 0 ?_ | refine zIxb 1 ?_ | refine zIxb 2 ?_ | refine gG ?_ | refine zN1 (fun hlen => ?_) | refine zN2 (fun hlen => ?_) | refine zAl (fun _ => ?_) | refine zBf ?_ | refine zAp (fun _ => ?_))
      refine lo_mul rfl rfl (r := z * (2 * sgn ds - 1) * (dm + 1)) (by rw [IntWalk.i64_in _ (by omega)]) ?_
      repeat (first | refine zIxb 0 ?_ | refine zIxb 1 ?_ | refine zIxb 2 ?_ | refine gG ?_ | refine zN1 (fun hlen => ?_) | refine zN2 (fun hlen => ?_) | refine zAl (fun _ => ?_) | refine zBf ?_ | refine zAp (fun _ => ?_))
      exact ⟨(k + 1, _), hk', by simp only; omega, x_wkd 1 ⟨rfl, rfl, trivial⟩ (by simp only [hy, List.flatMap_append, List.length_append]; rfl) (by repeat (first | exact ag_refl | refine ag_upd rfl ?_ | refine ag_at rfl rfl ?_))⟩
  · have hk' : k = r.length := Nat.le_antisymm hk (Nat.le_of_not_lt (by simpa using h))
    subst hk'
    clear h hlT h0
    repeat (first | refine gG ?_ | refine zN1 (fun hlen => ?_) | refine zN2 (fun hlen => ?_) | refine zAl (fun _ => ?_) | refine zBf ?_ | refine zAp (fun _ => ?_))
    first | refine zR (ts := [nRow (sgTo r (i : Int) z r.length)]) ?_ | refine zQ (ts := [nRow (sgTo r (i : Int) z r.length)]) ?_
    rw [hT]; rfl
def natI (k : Nat) : Int := (k : Int)
def idxs (m : Nat) : List Int := (List.range m).map natI
theorem idxs_snoc (k : Nat) : idxs (k + 1) = idxs k ++ [(k : Int)] := by unfold idxs; rw [List.range_succ, List.map_append]; rfl
theorem idxs_len (k : Nat) : (idxs k).length = k := by simp [idxs]
set_option maxRecDepth 100000 in
set_option maxHeartbeats 2000000 in
theorem indices_af (m : Nat) (hm : m ≤ 1048576) : AF Try.prog 28 [.lit (.int .i64 (m : Nat))] (· = nRow (idxs m)) := by
  have hsn := idxs_snoc
  have hl := idxs_len
  have h0 : idxs 0 = [] := rfl
  generalize idxs = I at *
  refine af_enter tok Try.func28 Try.ntmps28 Try.results28 rfl (by kernel_rfl) rfl rfl fun F hX => ?_
  repeat (first | refine gG ?_ | refine zAp (fun _ => ?_))
  refine x_own 3 3 1 rfl rfl rfl rfl rfl ?_
  refine x_loop [3, 4, 6, 7, 8, 9, 10, 11, 12, 13] (fun y : Nat × Value => [(6, .c (.lit (.int .i64 (y.1 : Nat)))), (3, .own 0 y.2)]) (fun y => [.row y.2 3 1 (I y.1).length ((I y.1).flatMap nTs)]) (fun y => y.1 ≤ m) (fun y => m - y.1) (0, .slice none 0 0) (Nat.zero_le _) ⟨rfl, rfl, trivial⟩ (by simp only [h0]; rfl) ?_
  rintro ⟨k, v⟩ hk
  dsimp only at hk ⊢
  have hlk := hl k
  repeat (first | refine gG ?_ | refine zAp (fun _ => ?_))
  refine x_cond rfl (fun h => ?_) (fun h => ?_)
  · have hk' : k < m := by simpa using h
    have hs := hsn k
    clear h hsn hl h0
    repeat (first | refine gG ?_ | refine zAp (fun _ => ?_))
    exact ⟨(k + 1, _), hk', by simp only; omega, x_wkd 1 ⟨rfl, rfl, trivial⟩ (by simp only [hs, List.flatMap_append, List.length_append]; rfl) (by repeat (first | exact ag_refl | refine ag_upd rfl ?_ | refine ag_at rfl rfl ?_))⟩
  · have hk' : k = m := Nat.le_antisymm hk (Nat.le_of_not_lt (by simpa using h))
    subst hk'
    clear h hsn h0
    repeat (first | refine gG ?_ | refine zAp (fun _ => ?_))
    first | refine zR (ts := [nRow (I k)]) ?_ | refine zQ (ts := [nRow (I k)]) ?_
    rfl
set_option maxRecDepth 100000 in
set_option maxHeartbeats 1000000 in
theorem idxIntF_af (p : Int → Bool) (f : FuncId) (cap : List T) (l : List Int) (hf : ∀ a ∈ l, AF Try.prog f (.lit (.int .i64 a) :: cap) (· = .lit (.bool (p a)))) :
    AF Try.prog 27 [nRow l, .fn (.func f) cap] (· = .lit (.int .i64 (idxI p l))) := by
  refine af_enter tok Try.func27 Try.ntmps27 Try.results27 rfl (by kernel_rfl) rfl rfl fun F hX => ?_
  repeat (first | refine gG ?_ | refine zN1 (fun hlen => ?_) | refine zN2 (fun hlen => ?_))
  refine x_loop [4, 5, 8, 9, 10, 11, 12, 13, 14, 15, 16, 17, 18] (fun k : Nat => [(8, .c (.lit (.int .i64 k)))]) (fun _ => []) (fun k => k ≤ l.length ∧ idxAt p l k) (fun k => l.length - k) 0 ⟨Nat.zero_le _, idxAt_zero p l⟩ ⟨rfl, trivial⟩ rfl fun k hk => ?_
  repeat (first | refine gG ?_ | refine zN1 (fun hlen => ?_) | refine zN2 (fun hlen => ?_))
  refine x_cond rfl (fun h => ?_) (fun h => ?_)
  · have hk' : k < l.length := by simpa using h
    obtain ⟨a, ha⟩ := nth hk'
    have hs := hf a (List.mem_of_getElem? ha)
    have hat := n_at ha
    repeat (first | refine gG ?_ | refine zN1 (fun hlen => ?_) | refine zN2 (fun hlen => ?_))
    refine zIx k hk' ?_
    repeat (first | refine gG ?_ | refine zN1 (fun hlen => ?_) | refine zN2 (fun hlen => ?_))
    refine zEl1 hat ?_
    repeat (first | refine gG ?_ | refine zN1 (fun hlen => ?_) | refine zN2 (fun hlen => ?_))
    refine v_callc hs rfl (by first | exact rzs_cons rz_c rzs_self | (repeat (first | exact rzs_nil | apply rzs_cons | exact rz_c | exact rz_nil rfl | apply rz_agg | exact rz_own rfl | apply rz_fn | exact rz_ptr rfl | apply rz_tup))) ?_
    rintro _ rfl
    cases hp : p a
    · repeat (first | refine gG ?_ | refine zN1 (fun hlen => ?_) | refine zN2 (fun hlen => ?_))
      exact ⟨k + 1, ⟨hk', idxAt_no hk.2 ha hp⟩, by omega, x_wkd 0 ⟨rfl, trivial⟩ rfl (by repeat (first | exact ag_refl | refine ag_upd rfl ?_ | refine ag_at rfl rfl ?_))⟩
    · repeat (first | refine gG ?_ | refine zN1 (fun hlen => ?_) | refine zN2 (fun hlen => ?_))
      first | refine zR ?_ | refine zQ ?_
      rw [idxAt_yes hk.2 ha hp]; rfl
  · have hk' : k = l.length := by have : ¬ k < l.length := by simpa using h
                                  omega
    subst hk'
    repeat (first | refine gG ?_ | refine zN1 (fun hlen => ?_) | refine zN2 (fun hlen => ?_))
    first | refine zR ?_ | refine zQ ?_
    rw [idxAt_end hk.2]; rfl
def eqI (a b : Int) : Bool := decide (a = b)
set_option maxRecDepth 100000 in
set_option maxHeartbeats 1000000 in
theorem eqInts_af (l r : List Int) : AF Try.prog 13 [nRow l, nRow r] (· = .lit (.bool (eqW eqI l r))) := by
  refine af_enter tok Try.func13 Try.ntmps13 Try.results13 rfl (by kernel_rfl) rfl rfl fun F hX => ?_
  repeat (first | refine gG ?_ | refine zN1 (fun hlen => ?_) | refine zN2 (fun hlen => ?_))
  refine x_cond rfl (fun h => ?_) (fun h => ?_)
  · repeat (first | refine gG ?_ | refine zN1 (fun hlen => ?_) | refine zN2 (fun hlen => ?_))
    first | refine zR ?_ | refine zQ ?_
    have : l.length ≠ r.length := by have := h; simp at this; omega
    rw [eqW_len this]
    rfl
  · have hlr : l.length = r.length := by have := h; simp at this; omega
    repeat (first | refine gG ?_ | refine zN1 (fun hlen => ?_) | refine zN2 (fun hlen => ?_))
    refine x_loop [4, 5, 13, 14, 15, 16, 17, 18, 19, 20, 21, 22, 23, 24, 25] (fun k : Nat => [(13, .c (.lit (.int .i64 (k : Nat))))]) (fun _ => []) (fun k => k ≤ l.length ∧ eqW eqI l r = eqW eqI (l.drop k) (r.drop k)) (fun k => l.length - k) 0 ⟨Nat.zero_le _, rfl⟩ ⟨rfl, trivial⟩ rfl ?_
    rintro k ⟨hk, hE⟩
    repeat (first | refine gG ?_ | refine zN1 (fun hlen => ?_) | refine zN2 (fun hlen => ?_))
    refine x_cond rfl (fun h => ?_) (fun h => ?_)
    · have hk' : k < l.length := by simpa using h
      have hkr : k < r.length := by omega
      obtain ⟨a, ha⟩ := nth hk'
      obtain ⟨b, hb⟩ := nth hkr
      have hat := n_at ha
      have hbt := n_at hb
      have hstep : eqW eqI (l.drop k) (r.drop k) = (decide (a = b) && eqW eqI (l.drop (k + 1)) (r.drop (k + 1))) := eqW_step ha hb
      rw [hstep] at hE
      clear h ha hb hstep
      cases d1 : decide (a = b)
      · rw [d1] at hE
        rw [hE]
        repeat (first | refine gG ?_ | refine zN1 (fun hlen => ?_) | refine zN2 (fun hlen => ?_))
        refine ac_draw [1, 1, 1, 1, 1, 1, 1, 1, 1] [0, 1, 2, 3, 4, 5, 6, 7, 8] (by kernel_rfl) (by kernel_rfl) ?_
        refine gW ?_
        apply w_q; (focus exact rfl); (focus exact rfl); focus (intro _; (refine zIx k hk' ?_); exact det_refl)
        apply w_q; (focus exact rfl); (focus exact rfl); focus (intro _; (refine zEl1 hat ?_); exact det_refl)
        refine gW ?_
        apply w_q; (focus exact rfl); (focus exact rfl); focus (intro _; (refine zIx k hkr ?_); exact det_refl)
        apply w_q; (focus exact rfl); (focus exact rfl); focus (intro _; (refine zEl1 hbt ?_); exact det_refl)
        refine gW ?_
        refine w_nil ?_
        repeat (first | refine gG ?_ | refine zN1 (fun hlen => ?_) | refine zN2 (fun hlen => ?_))
        first | refine zR ?_ | refine zQ ?_
        rfl
      · rw [d1, Bool.true_and] at hE
        repeat (first | refine gG ?_ | refine zN1 (fun hlen => ?_) | refine zN2 (fun hlen => ?_))
        refine ac_draw [1, 1, 1, 1, 1, 1, 1, 1, 1] [0, 1, 2, 3, 4, 5, 6, 7, 8] (by kernel_rfl) (by kernel_rfl) ?_
        refine gW ?_
        apply w_q; (focus exact rfl); (focus exact rfl); focus (intro _; (refine zIx k hk' ?_); exact det_refl)
        apply w_q; (focus exact rfl); (focus exact rfl); focus (intro _; (refine zEl1 hat ?_); exact det_refl)
        refine gW ?_
        apply w_q; (focus exact rfl); (focus exact rfl); focus (intro _; (refine zIx k hkr ?_); exact det_refl)
        apply w_q; (focus exact rfl); (focus exact rfl); focus (intro _; (refine zEl1 hbt ?_); exact det_refl)
        refine gW ?_
        refine w_nil ?_
        repeat (first | refine gG ?_ | refine zN1 (fun hlen => ?_) | refine zN2 (fun hlen => ?_))
        exact ⟨k + 1, ⟨hk', hE⟩, by omega, x_wkd 0 ⟨rfl, trivial⟩ rfl (by repeat (first | exact ag_refl | refine ag_upd rfl ?_ | refine ag_at rfl rfl ?_))⟩
    · have hk' : k = l.length := Nat.le_antisymm hk (Nat.le_of_not_lt (by simpa using h))
      repeat (first | refine gG ?_ | refine zN1 (fun hlen => ?_) | refine zN2 (fun hlen => ?_))
      first | refine zR ?_ | refine zQ ?_
      rw [hE, hk', List.drop_length, hlr, List.drop_length]
      rfl
theorem eqW_map {α : Type} (f g : α → Int) : ∀ {l r : List α}, eqW eqI (l.map f) (r.map g) = eqW (fun x y => eqI (f x) (g y)) l r
  | [], [] => rfl
  | [], _ :: _ => rfl
  | _ :: _, [] => rfl
  | a :: l, b :: r => by rw [List.map_cons, List.map_cons, eqW, eqW, eqW_map f g]
theorem eqW_congr {α β : Type} {p q : α → β → Bool} : ∀ {l : List α} {r : List β}, (∀ a ∈ l, ∀ b ∈ r, p a b = q a b) → eqW p l r = eqW q l r
  | [], [], _ => rfl
  | [], _ :: _, _ => rfl
  | _ :: _, [], _ => rfl
  | a :: l, b :: r, h => by rw [eqW, eqW, h a (by simp) b (by simp), eqW_congr fun a ha b hb => h a (by simp [ha]) b (by simp [hb])]
theorem sv_meet (x y : Dd) (hx : 0 ≤ x.msg) (hy : 0 ≤ y.msg) : eqI (sgv 1 x) (sgv (-1) y) = meetB x y := by
  obtain ⟨l, s, m⟩ := x
  obtain ⟨l', s', m'⟩ := y
  dsimp only at hx hy
  unfold eqI meetB sgv
  rw [Bool.eq_iff_iff, decide_eq_true_iff, Bool.and_eq_true, decide_eq_true_iff, Bool.not_eq_true', decide_eq_false_iff_not]
  cases s <;> cases s' <;> simp [sgn] <;> omega
theorem idxI_map {α : Type} (f : α → Int) (p : Int → Bool) (l : List α) : idxI p (l.map f) = idxI (fun a => p (f a)) l := by
  unfold idxI
  rw [List.findIdx?_map]; rfl
set_option maxRecDepth 100000 in
set_option maxHeartbeats 4000000 in
theorem mis1_af (n : Nt) (hok : NOk n) (i : Nat) (hi : i < n.lines.length) : AF Try.prog 29 [.lit (.int .i64 (i : Nat)), .pin [lnRow n.lines, whoRow3 n.who] 0] (· = .lit (.bool (dualB n i))) := by
  obtain ⟨l, hl⟩ := nth hi
  obtain ⟨l1, l2, l3, l4, l5⟩ := hok.ln hl
  have hon : ∀ (w : Nat) (z : Int), (z = 1 ∨ z = -1) → w < n.who.length → AF Try.prog 30 [n.t3, .lit (.int .i64 (w : Nat)), .lit (.int .i64 (i : Nat)), .lit (.int .i64 z)] (· = nRow ((onL n.who (w : Int) i).map (sgv z))) := fun w z hz hw => by
    obtain ⟨r, hr⟩ := nth hw
    exact onLine_af n w i z hz r hr (hok.dd40 hr) fun d hd => by have := hok.dd hr hd; exact ⟨this.2.2.1, this.2.2.2.1⟩
  have hpos : ∀ (w : Nat), w < n.who.length → ∀ d ∈ onL n.who (w : Int) i, 0 ≤ d.msg := fun w hw d hd => by
    obtain ⟨r, hr⟩ := nth hw
    unfold onL at hd
    rw [Int.toNat_natCast, hr] at hd
    exact (hok.dd hr (List.mem_filter.1 hd).1).2.2.1
  have hB : dualB n i = !eqW meetB (onL n.who l.a i) (onL n.who l.b i) := by unfold dualB; rw [lnAt_eq hl]
  have p0 : (n.lines.flatMap Ln.ts)[i * 2 + 0]? = some (.lit (.int .i64 l.a)) := flat_get Ln.ts 2 Ln.ts_len hl (j := 0) (by omega)
  have p1 : (n.lines.flatMap Ln.ts)[i * 2 + 1]? = some (.lit (.int .i64 l.b)) := flat_get Ln.ts 2 Ln.ts_len hl (j := 1) (by omega)
  rw [hB]
  clear hB hok hl
  obtain ⟨la, lb⟩ := l
  dsimp only at *
  obtain ⟨a, rfl⟩ : ∃ a : Nat, la = (a : Int) := ⟨la.toNat, by omega⟩
  obtain ⟨b, rfl⟩ : ∃ b : Nat, lb = (b : Int) := ⟨lb.toNat, by omega⟩
  have c1 := hon a 1 (.inl rfl) (by omega)
  have c2 := hon b (-1) (.inr rfl) (by omega)
  have c3 := eqInts_af ((onL n.who (a : Int) i).map (sgv 1)) ((onL n.who (b : Int) i).map (sgv (-1)))
  rw [eqW_map, eqW_congr fun x hx y hy => sv_meet x y (hpos a (by omega) x hx) (hpos b (by omega) y hy)] at c3
  generalize eqW meetB (onL n.who (a : Int) i) (onL n.who (b : Int) i) = z at *
  generalize (onL n.who (a : Int) i).map (sgv 1) = A at *
  generalize (onL n.who (b : Int) i).map (sgv (-1)) = B at *
  clear hon hpos
  obtain ⟨ls, ws⟩ := n
  dsimp only at *
  refine af_enter tok Try.func29 Try.ntmps29 Try.results29 rfl (by kernel_rfl) rfl rfl fun F hX => ?_
  repeat (first | refine gG ?_)
  refine ac_drawB [0, 0, 2, 0, 14, 30, 62, 0, 255, 0, 0, 1024, 0, 7168, 15360, 31744, 0, 131071, 262143, 524287, 1048575] [1, 1, 1, 1, 1, 1, 1, 1, 1, 1, 1, 1, 1, 1, 1, 1, 1, 1, 1, 1, 1] [0, 1, 2, 3, 4, 5, 6, 7, 8, 9, 10, 11, 12, 13, 14, 15, 16, 17, 18, 19, 20] (by kernel_rfl) (by kernel_rfl) ?_
  refine gW ?_
  apply w_q; (focus exact rfl); (focus exact rfl); focus (intro _; (refine zIx i hi ?_); exact det_refl)
  apply w_q; (focus exact rfl); (focus exact rfl); focus (intro _; (refine zIxn 0 ?_); exact det_refl)
  apply w_q; (focus exact rfl); (focus exact rfl); focus (intro _; (refine zEl1 p0 ?_); exact det_refl)
  refine gW ?_
  apply w_q; (focus exact rfl); (focus exact rfl); focus (intro _; (refine zCall c1 ?_; rintro _ rfl); exact det_refl)
  refine gW ?_
  apply w_q; (focus exact rfl); (focus exact rfl); focus (intro _; (refine zIx i hi ?_); exact det_refl)
  apply w_q; (focus exact rfl); (focus exact rfl); focus (intro _; (refine zIxn 1 ?_); exact det_refl)
  apply w_q; (focus exact rfl); (focus exact rfl); focus (intro _; (refine zEl1 p1 ?_); exact det_refl)
  refine gW ?_
  apply w_q; (focus exact rfl); (focus exact rfl); focus (intro _; (refine zCall c2 ?_; rintro _ rfl); exact det_refl)
  apply w_q; (focus exact rfl); (focus exact rfl); focus (intro _; (refine zCall c3 ?_; rintro _ rfl); exact det_refl)
  refine gW ?_
  refine w_nil ?_
  repeat (first | refine gG ?_)
  first | refine zR ?_ | refine zQ ?_
  rfl
set_option maxRecDepth 100000 in
set_option maxHeartbeats 2000000 in
theorem mismatch_af (n : Nt) (hok : NOk n) : AF Try.prog 11 [n.t3] (· = .lit (.int .i64 (dualR n))) := by
  have h1 := indices_af n.lines.length (by have := hok.ln12; omega)
  have h2 := idxIntF_af (fun z => dualB n z.toNat) 29 [.pin [lnRow n.lines, whoRow3 n.who] 0] (idxs n.lines.length) (fun z hz => by
    obtain ⟨i, hi, rfl⟩ := List.mem_map.1 hz
    exact mis1_af n hok i (List.mem_range.1 hi))
  have h3 : idxI (fun z => dualB n z.toNat) (idxs n.lines.length) = dualR n := by
    unfold idxs dualR
    rw [idxI_map]; rfl
  rw [h3] at h2
  generalize dualR n = R at *
  generalize idxs n.lines.length = I at *
  clear h3 hok
  obtain ⟨ls, ws⟩ := n
  dsimp only at *
  refine af_enter tok Try.func11 Try.ntmps11 Try.results11 rfl (by kernel_rfl) rfl rfl fun F hX => ?_
  repeat (first | refine gG ?_ | refine zN1 (fun hlen => ?_) | refine zN2 (fun hlen => ?_) | refine zBf ?_)
  refine zCall (h1) ?_
  rintro _ rfl
  repeat (first | refine gG ?_ | refine zN1 (fun hlen => ?_) | refine zN2 (fun hlen => ?_) | refine zBf ?_)
  refine zCall (h2) ?_
  rintro _ rfl
  repeat (first | refine gG ?_ | refine zN1 (fun hlen => ?_) | refine zN2 (fun hlen => ?_) | refine zBf ?_)
  first | refine zR ?_ | refine zQ ?_
  rfl
end Go.Proofs.Ytaoldigfefmamaa
namespace Go.Proofs.Ytaoldigfefmamaa
open Go.RowKit
section
variable {P : Program} {F : Frm} {L : Tab} {d : Option Tmp} {ty : TypeId} {pos : String} {aft : Array Edge} {g : Option (Nat × Bool)} {ρ : Operand → AV} {hp : List Blk} {K : AV → List Blk → Prop} {xT kT eT : TypeId} {x y z : Operand} {i b : Nat} {te : TI} {z0 : Value} {o : Option (List Nat × Nat)}
theorem zLkio (kT eT : TypeId) {s : Int} {l : List (Int × T)} {t : T} {c : Bool} (ht : (mget s l).getD (.lit z0) = t) (hc : (mget s l).isSome = c) (h : K (.c (.tup [t, .lit (.bool c)])) hp) (hL : TabOk P L := by exact tok) (hu : isMap P xT = some (kT, eT) := by kernel_rfl) (hk : P.underlying kT = some (.int .i64) := by kernel_rfl) (hte : L.look eT = some te := by exact rfl) (hz : te.zero = [z0] := by exact rfl) (ha : te.agg = false := by exact rfl) (hx : ρ x = .own i (.map (some b)) := by exact rfl) (hi : hp[i]? = some (.mpx b (mkeys (Value.int .i64) l) o) := by exact rfl) (hy : ρ y = .c (.lit (.int .i64 s)) := by exact rfl) :
    LO P F ⟨d, .lookup xT x y true, ty, pos, aft, g⟩ ρ hp K := lo_lookup_ok (keyInt .i64) hL (isMap_eq hu) hk hte hz ha hx hi hy (by rw [ht, hc]; exact h)
end
structure SeenW (m : Nat) (fr : Int) (w : Int × List Int) (s : List (Int × List Int) × List Int) : Prop where
  seen : Seen m fr s
  short : ∀ p ∈ s.1, p.2.length < s.2.length
  mem : w.1 ∈ s.2
  wlen : w.2.length < s.2.length
theorem grow_seen {m : Nat} {fr but : Int} {w : Int × List Int} {s : List (Int × List Int) × List Int} (h : SeenW m fr w s) {l : Ln} (hl : 0 ≤ l.a ∧ 0 ≤ l.b ∧ l.a < m ∧ l.b < m ∧ l.a ≠ l.b) (k : Nat) : SeenW m fr w (grow but w s (l, k)) ∧ (grow but w s (l, k)).2.length - (grow but w s (l, k)).1.length = s.2.length - s.1.length := by
  unfold grow
  dsimp only
  split
  · exact ⟨h, rfl⟩
  · rename_i h1
    split
    · exact ⟨h, rfl⟩
    · rename_i h2
      have hx : l.a + l.b - w.1 = l.a ∨ l.a + l.b - w.1 = l.b := by
        by_cases ha : l.a = w.1
        · exact .inr (by omega)
        · by_cases hb : l.b = w.1
          · exact .inl (by omega)
          · exact absurd (.inr ⟨ha, hb⟩) h1
      generalize l.a + l.b - w.1 = x at *
      refine ⟨⟨⟨?_, ?_, ?_, ?_, ?_⟩, ?_, ?_, ?_⟩, ?_⟩
      · rw [List.nodup_append]
        exact ⟨h.seen.nodup, by simp, fun a ha b hb e => h2 (by rw [List.mem_singleton] at hb; rw [← hb, ← e]; exact ha)⟩
      · intro y hy
        rcases List.mem_append.1 hy with hy | hy
        · exact h.seen.rng y hy
        · rw [List.mem_singleton.1 hy]; omega
      · simp only [List.length_append, List.length_singleton]
        have := h.seen.len
        omega
      · intro p hp
        rcases List.mem_append.1 hp with hp | hp
        · exact List.mem_append_left _ (h.seen.sub p hp)
        · rw [List.mem_singleton.1 hp]; simp
      · exact List.mem_append_left _ h.seen.fr
      · intro p hp
        rw [List.length_append, List.length_singleton]
        rcases List.mem_append.1 hp with hp | hp
        · have := h.short p hp
          omega
        · rw [List.mem_singleton.1 hp]
          simp only [List.length_append, List.length_singleton]
          have := h.wlen
          omega
      · exact List.mem_append_left _ h.mem
      · rw [List.length_append, List.length_singleton]
        have := h.wlen
        omega
      · simp only [List.length_append, List.length_singleton]
        omega
/-- all lines lead between places -/
def LnsOk (m : Nat) (ls : List Ln) : Prop := ∀ (i : Nat) (l : Ln), ls[i]? = some l → 0 ≤ l.a ∧ 0 ≤ l.b ∧ l.a < m ∧ l.b < m ∧ l.a ≠ l.b
theorem growTo_seen {m : Nat} {fr but : Int} {w : Int × List Int} {s : List (Int × List Int) × List Int} {ls : List Ln} (hls : LnsOk m ls) (h : SeenW m fr w s) : ∀ k, k ≤ ls.length → SeenW m fr w (growTo ls but w s k) ∧ (growTo ls but w s k).2.length - (growTo ls but w s k).1.length = s.2.length - s.1.length
  | 0, _ => ⟨h, rfl⟩
  | k + 1, hk => by
    obtain ⟨l, hl⟩ := nth (show k < ls.length by omega)
    obtain ⟨h1, h2⟩ := growTo_seen hls h k (by omega)
    obtain ⟨h3, h4⟩ := grow_seen (but := but) h1 (hls k l hl) k
    rw [growTo_snoc hl]
    exact ⟨h3, h4.trans h2⟩
structure WS (m : Nat) (ls : List Ln) (fr to but : Int) (R : Option (List Int)) (s : List (Int × List Int) × List Int) : Prop where
  seen : Seen m fr s
  short : ∀ p ∈ s.1, p.2.length < s.2.length
  eq : R = bfs ls but to (m + 1 - (s.2.length - s.1.length)) s
theorem ws_init (n : Nt) (fr to but : Int) (hf : 0 ≤ fr ∧ fr < n.who.length) : WS n.who.length n.lines fr to but (wayOf n fr to but) ([(fr, [])], [fr]) :=
  ⟨⟨by simp, fun x hx => by rw [List.mem_singleton.1 hx]; exact hf, by simp, fun p hp => by rw [List.mem_singleton.1 hp]; simp, by simp⟩, fun p hp => by rw [List.mem_singleton.1 hp]; simp, rfl⟩
theorem ws_none {m : Nat} {ls : List Ln} {fr to but : Int} {R : Option (List Int)} {sn : List Int} (h : WS m ls fr to but R ([], sn)) : R = none := by
  have := h.seen.le
  have he := h.eq
  dsimp only [List.length_nil] at he this
  obtain ⟨f, hf⟩ : ∃ f, m + 1 - (sn.length - 0) = f + 1 := ⟨m - sn.length, by omega⟩
  rw [he, hf]; rfl
theorem ws_cons {m : Nat} {ls : List Ln} {fr to but : Int} {R : Option (List Int)} {w : Int × List Int} {q : List (Int × List Int)} {sn : List Int} (h : WS m ls fr to but R (w :: q, sn)) : R = if w.1 = to then some w.2 else bfs ls but to (m - (sn.length - (q.length + 1))) (growTo ls but w (q, sn) ls.length) := by
  have := h.seen.le
  have he := h.eq
  dsimp only [List.length_cons] at he this
  obtain ⟨f, hf⟩ : ∃ f, m + 1 - (sn.length - (q.length + 1)) = f + 1 := ⟨m - (sn.length - (q.length + 1)), by omega⟩
  rw [he, hf, bfs, show m - (sn.length - (q.length + 1)) = f by omega]
theorem ws_hit {m : Nat} {ls : List Ln} {fr to but : Int} {R : Option (List Int)} {w : Int × List Int} {q : List (Int × List Int)} {sn : List Int} (h : WS m ls fr to but R (w :: q, sn)) (hw : w.1 = to) : R = some w.2 := by rw [ws_cons h, if_pos hw]
theorem ws_pop {m : Nat} {ls : List Ln} {fr to but : Int} {R : Option (List Int)} {w : Int × List Int} {q : List (Int × List Int)} {sn : List Int} (h : WS m ls fr to but R (w :: q, sn)) : SeenW m fr w (q, sn) :=
  ⟨⟨h.seen.nodup, h.seen.rng, by have := h.seen.len; simp only [List.length_cons] at this; dsimp only; omega, fun p hp => h.seen.sub p (List.mem_cons_of_mem _ hp), h.seen.fr⟩, fun p hp => h.short p (List.mem_cons_of_mem _ hp), h.seen.sub w (by simp), h.short w (by simp)⟩
/-- how much is left to do -/
def left (m : Nat) (s : List (Int × List Int) × List Int) : Nat := m + 1 - (s.2.length - s.1.length)
theorem ws_step {m : Nat} {ls : List Ln} {fr to but : Int} {R : Option (List Int)} {w : Int × List Int} {q : List (Int × List Int)} {sn : List Int} (hls : LnsOk m ls) (h : WS m ls fr to but R (w :: q, sn)) (hw : ¬ w.1 = to) : WS m ls fr to but R (growTo ls but w (q, sn) ls.length) ∧ left m (growTo ls but w (q, sn) ls.length) < left m (w :: q, sn) := by
  obtain ⟨h1, h2⟩ := growTo_seen (but := but) hls (ws_pop h) ls.length (Nat.le_refl _)
  have h3 := ws_cons h
  have h4 := h.seen.le
  have h5 := h.seen.len
  dsimp only [List.length_cons] at h4 h5
  rw [if_neg hw] at h3
  dsimp only at h2
  refine ⟨⟨h1.seen, h1.short, ?_⟩, ?_⟩
  · rw [h2, h3]
    congr 1
    omega
  · unfold left
    rw [h2]
    dsimp only [List.length_cons]
    omega
def ChR (ls : List Ln) (m : List (Int × T)) (fr : Int) : List Int → Int → Prop
  | [], x => x = fr
  | i :: r, x => x ≠ fr ∧ mget x m = some (.lit (.int .i64 i)) ∧ 0 ≤ i ∧ i < ls.length ∧ (x = (lnAt ls i).a ∨ x = (lnAt ls i).b) ∧ ChR ls m fr r ((lnAt ls i).a + (lnAt ls i).b - x)
theorem ChR.keep {ls : List Ln} {m : List (Int × T)} {fr y : Int} {t : T} (hy : mget y m = none) : ∀ {r : List Int} {x : Int}, ChR ls m fr r x → ChR ls (mput y t m) fr r x
  | [], _, h => h
  | i :: r, x, ⟨h1, h2, h3, h4, h5, h6⟩ => by
    refine ⟨h1, ?_, h3, h4, h5, h6.keep hy⟩
    rw [mget_put, if_neg, h2]
    intro e
    rw [e, hy] at h2
    cases h2
structure ByOk (ls : List Ln) (fr : Int) (m : List (Int × T)) (w : Int × List Int) (s : List (Int × List Int) × List Int) : Prop where
  key : ∀ x, (mget x m).isSome = decide (x ∈ s.2)
  ch : ∀ p ∈ s.1, ChR ls m fr p.2.reverse p.1
  chw : ChR ls m fr w.2.reverse w.1
theorem ByOk.same {ls : List Ln} {fr but : Int} {m : List (Int × T)} {w : Int × List Int} {s : List (Int × List Int) × List Int} {p : Ln × Nat} (h : ByOk ls fr m w s) (he : grow but w s p = s) : ByOk ls fr m w (grow but w s p) := by rw [he]; exact h
theorem ByOk.new {m0 : Nat} {ls : List Ln} {fr but : Int} {m : List (Int × T)} {w : Int × List Int} {s : List (Int × List Int) × List Int} (h : ByOk ls fr m w s) (hs : SeenW m0 fr w s) {l : Ln} {k : Nat} (hl : ls[k]? = some l) (h1 : ¬ ((k : Int) = but ∨ (l.a ≠ w.1 ∧ l.b ≠ w.1))) (h2 : ¬ l.a + l.b - w.1 ∈ s.2) : ByOk ls fr (mput (l.a + l.b - w.1) (.lit (.int .i64 (k : Int))) m) w (grow but w s (l, k)) := by
  have hk : k < ls.length := (List.getElem?_eq_some_iff.1 hl).1
  have hno : mget (l.a + l.b - w.1) m = none := by
    have := h.key (l.a + l.b - w.1)
    rw [decide_eq_false h2] at this
    cases hg : mget (l.a + l.b - w.1) m with
    | none => rfl
    | some t => rw [hg] at this; cases this
  have hx : l.a + l.b - w.1 = l.a ∨ l.a + l.b - w.1 = l.b := by
    by_cases ha : l.a = w.1
    · exact .inr (by omega)
    · by_cases hb : l.b = w.1
      · exact .inl (by omega)
      · exact absurd (.inr ⟨ha, hb⟩) h1
  have hg : grow but w s (l, k) = (s.1 ++ [(l.a + l.b - w.1, w.2 ++ [(k : Int)])], s.2 ++ [l.a + l.b - w.1]) := by
    unfold grow
    rw [if_neg h1, if_neg h2]
  have hback : l.a + l.b - (l.a + l.b - w.1) = w.1 := by omega
  rw [hg]
  generalize l.a + l.b - w.1 = x at *
  refine ⟨fun y => ?_, fun p hp => ?_, h.chw.keep hno⟩
  · rw [mget_put]
    by_cases hy : y = x
    · rw [if_pos hy]
      subst hy
      simp
    · rw [if_neg hy, h.key y]
      simp [hy]
  · rcases List.mem_append.1 hp with hp | hp
    · exact (h.ch p hp).keep hno
    · rw [List.mem_singleton.1 hp]
      dsimp only
      rw [List.reverse_append]
      refine ⟨fun e => h2 (by rw [e]; exact hs.seen.fr), by rw [mget_put, if_pos rfl], by omega, by omega, by rw [lnAt_eq hl]; exact hx, ?_⟩
      rw [lnAt_eq hl, hback]
      exact h.chw.keep hno
theorem ByOk.pop {ls : List Ln} {fr : Int} {m : List (Int × T)} {w0 w : Int × List Int} {q : List (Int × List Int)} {sn : List Int} (h : ByOk ls fr m w0 (w :: q, sn)) : ByOk ls fr m w (q, sn) :=
  ⟨h.key, fun p hp => h.ch p (List.mem_cons_of_mem _ hp), h.ch w (by simp)⟩
theorem by_init (ls : List Ln) (fr : Int) : ByOk ls fr [(fr, .lit (.int .i64 (-1)))] (fr, []) ([(fr, [])], [fr]) := by
  refine ⟨fun x => ?_, fun p hp => by rw [List.mem_singleton.1 hp]; rfl, rfl⟩
  rw [mget]
  by_cases h : x = fr
  · rw [if_pos h]; subst h; simp
  · rw [if_neg h, mget]; simp [h]
end Go.Proofs.Ytaoldigfefmamaa
namespace Go.Proofs.Ytaoldigfefmamaa
open Go.RowKit
theorem flat_nTs (l : List Int) : l.flatMap nTs = l.map fun i => .lit (.int .i64 i) := by
  induction l with
  | nil => rfl
  | cons a l ih => rw [List.flatMap_cons, ih]; rfl
theorem spl_n (L : List Int) (j : Nat) (x : Int) : spl (L.flatMap nTs) (j * 1) [.lit (.int .i64 x)] = (L.set j x).flatMap nTs := by
  rw [flat_nTs, flat_nTs, Nat.mul_one]
  show List.set _ _ _ = _
  rw [List.map_set]
/-- the first i and the last i of l have changed places -/
def RevTo (l : List Int) (i : Nat) (L : List Int) : Prop := L.length = l.length ∧ ∀ p, p < l.length → L[p]? = if p < i ∨ l.length ≤ p + i then l[l.length - 1 - p]? else l[p]?
theorem revTo_zero (l : List Int) : RevTo l 0 l := ⟨rfl, fun p hp => by rw [if_neg (by omega)]⟩
theorem revTo_step {l L : List Int} {i : Nat} {x y : Int} (h : RevTo l i L) (hi : 2 * i + 1 < l.length) (hx : L[i]? = some x) (hy : L[l.length - 1 - i]? = some y) : RevTo l (i + 1) ((L.set i y).set (l.length - 1 - i) x) := by
  obtain ⟨h1, h2⟩ := h
  refine ⟨by simp [h1], fun p hp => ?_⟩
  rw [List.getElem?_set, List.getElem?_set]
  have hx2 := h2 i (by omega)
  rw [if_neg (by omega), hx] at hx2
  have hy2 := h2 (l.length - 1 - i) (by omega)
  rw [if_neg (by omega), hy] at hy2
  by_cases p1 : l.length - 1 - i = p
  · rw [if_pos p1, if_pos (by rw [List.length_set, h1]; omega), if_pos (by omega), hx2]
    congr 1; omega
  · rw [if_neg p1]
    by_cases p2 : i = p
    · rw [if_pos p2, if_pos (by rw [h1]; omega), if_pos (by omega), hy2]
      congr 1; omega
    · rw [if_neg p2, h2 p hp]
      by_cases p3 : p < i ∨ l.length ≤ p + i
      · rw [if_pos p3, if_pos (by omega)]
      · rw [if_neg p3, if_neg (by omega)]
theorem revTo_end {l L : List Int} {i : Nat} (h : RevTo l i L) (hi : l.length ≤ 2 * i + 1) : L = l.reverse := by
  obtain ⟨h1, h2⟩ := h
  refine List.ext_getElem? fun p => ?_
  by_cases hp : p < l.length
  · rw [h2 p hp, List.getElem?_reverse hp]
    split
    · rfl
    · congr 1; omega
  · rw [List.getElem?_eq_none (by omega), List.getElem?_eq_none (by rw [List.length_reverse]; omega)]
set_option maxRecDepth 100000 in
set_option maxHeartbeats 2000000 in
theorem reverse_ag (l : List Int) (v : Value) (hl : l.length ≤ 1048576) : AG Try.prog 37 [.own 0 v] [.row v 3 1 l.length (l.flatMap nTs)] (fun r hs => r = .tup [] ∧ hs = [.row v 3 1 l.reverse.length (l.reverse.flatMap nTs)]) := by
  have h0 := revTo_zero l
  have hstep := fun i L x y => @revTo_step l L i x y
  have hend := fun i L => @revTo_end l L i
  refine ag_enter 1 tok Try.func37 Try.ntmps37 Try.results37 rfl (by kernel_rfl) rfl fun F => ?_
  repeat (first | refine gG ?_ | refine zN1 (fun hlen => ?_) | refine zN2 (fun hlen => ?_) | refine zSub ?_)
  refine x_loop [2, 3, 7, 8, 9, 10, 11, 12, 13, 14, 15, 16, 17, 18, 19, 20, 21, 22, 23, 24, 25, 26, 27] (fun y : Nat × Int × List Int => [(2, .c (.lit (.int .i64 (y.1 : Nat)))), (3, .c (.lit (.int .i64 y.2.1)))]) (fun y => [.row v 3 1 l.length (y.2.2.flatMap nTs)]) (fun y => y.2.1 = (l.length : Int) - 1 - y.1 ∧ y.1 ≤ l.length ∧ RevTo l y.1 y.2.2) (fun y => l.length - y.1) (0, (l.length : Int) - 1, l) ⟨by simp, Nat.zero_le _, h0⟩ ⟨rfl, rfl, trivial⟩ rfl ?_
  clear h0
  rintro ⟨i, z, L⟩ ⟨hz, hi, hR⟩
  dsimp only at hz hi hR ⊢
  repeat (first | refine gG ?_ | refine zN1 (fun hlen => ?_) | refine zN2 (fun hlen => ?_) | refine zSub ?_)
  refine x_cond rfl (fun h => ?_) (fun h => ?_)
  · have hlt : ((i : Nat) : Int) < z := by simpa using h
    obtain ⟨j, rfl⟩ : ∃ j : Nat, z = (j : Int) := ⟨z.toNat, by omega⟩
    have hj : j = l.length - 1 - i := by omega
    have hjl : j < l.length := by omega
    have hil : i < l.length := by omega
    have hLl := hR.1
    obtain ⟨x, hx⟩ := nth (show i < L.length by omega)
    obtain ⟨y, hy⟩ := nth (show j < L.length by omega)
    have hs := hstep i L x y hR (by omega) hx (by rw [← hj]; exact hy)
    rw [← hj] at hs
    have hxt := n_at hx
    have hyt := n_at hy
    have hb1 : i * 1 + 1 ≤ (L.flatMap nTs).length := by rw [len_flat nTs_len]; omega
    have hb2 : j * 1 + 1 ≤ ((L.set i y).flatMap nTs).length := by rw [len_flat nTs_len, List.length_set]; omega
    have hs1 := spl_n L i y
    have hs2 := spl_n (L.set i y) j x
    clear h hx hy hstep hend hR
    repeat (first | refine gG ?_ | refine zN1 (fun hlen => ?_) | refine zN2 (fun hlen => ?_) | refine zSub ?_)
    refine ac_draw [1, 1, 0, 0, 1, 1, 1, 1, 1, 1, 1, 1, 2, 2, 2, 2] [0, 1, 2, 3, 4, 5, 6, 7, 8, 9, 10, 11, 12, 13, 14, 15] (by kernel_rfl) (by kernel_rfl) ?_
    refine gW ?_
    apply w_q; (focus exact rfl); (focus exact rfl); focus (intro _; (refine zIxo j hjl ?_); exact det_refl)
    apply w_q; (focus exact rfl); (focus exact rfl); focus (intro _; (refine zElo1 hyt ?_); exact det_refl)
    refine gW ?_
    apply w_q; (focus exact rfl); (focus exact rfl); focus (intro _; (refine zIxo i hil ?_); exact det_refl)
    apply w_q; (focus exact rfl); (focus exact rfl); focus (intro _; (refine zElo1 hxt ?_); exact det_refl)
    apply w_l; (focus exact rfl); (focus exact rfl); (refine zIxo i hil ?_)
    apply w_l; (focus exact rfl); (focus exact rfl); (refine zSe (us := [.lit (.int .i64 y)]) hs1 hb1 ?_)
    apply w_l; (focus exact rfl); (focus exact rfl); (refine zIxo j hjl ?_)
    apply w_l; (focus exact rfl); (focus exact rfl); (refine zSe (us := [.lit (.int .i64 x)]) hs2 hb2 ?_)
    refine w_nil ?_
    repeat (first | refine gG ?_ | refine zN1 (fun hlen => ?_) | refine zN2 (fun hlen => ?_) | refine zSub ?_)
    exact ⟨(i + 1, ((j : Nat) : Int) - 1, (L.set i y).set j x), ⟨by simp only; omega, by simp only; omega, hs⟩, by simp only; omega, x_wkd 1 ⟨rfl, rfl, trivial⟩ rfl (by repeat (first | exact ag_refl | refine ag_upd rfl ?_ | refine ag_at rfl rfl ?_))⟩
  · have hnl : ¬ ((i : Nat) : Int) < z := by simpa using h
    have he := hend i L hR (by omega)
    have hle : l.length = l.reverse.length := by simp
    rw [he, hle]
    clear h hstep hend hR
    repeat (first | refine gG ?_ | refine zN1 (fun hlen => ?_) | refine zN2 (fun hlen => ?_) | refine zSub ?_)
    refine zG ?_
    exact ⟨rfl, rfl⟩
end Go.Proofs.Ytaoldigfefmamaa
