/-
  Texts of this proof, part 12: Thk.
-/
import Derived.Test.YtllgibfmddihgaaDoorQSchemeSays11
import Derived.Laws.Strings2
import Derived.Lib.AppendStr
import Derived.Lib.MinMax
namespace Go.Proofs.YtllgibfmddihgaaDoor
open Go.RowKit
theorem pos_cases (t : ByteArray) : ∀ ns : List ByteArray, (posOf t ns = -1 ∧ t ∉ ns) ∨ ∃ j : Nat, posOf t ns = (j : Int) ∧ ns[j]? = some t
  | [] => .inl ⟨rfl, by simp⟩
  | a :: l => by
    unfold posOf idxI
    rw [List.findIdx?_cons]
    cases h : decide (t = a)
    · have hne : t ≠ a := of_decide_eq_false h
      rcases pos_cases t l with ⟨h1, h2⟩ | ⟨i, h1, h2⟩
      · left
        unfold posOf idxI at h1
        refine ⟨?_, by simp [hne, h2]⟩
        cases hf : l.findIdx? (fun x => decide (t = x)) with
        | none => simp [hf]
        | some i => rw [hf] at h1; simp at h1 <;> omega
      · right
        unfold posOf idxI at h1
        refine ⟨i + 1, ?_, by simpa using h2⟩
        cases hf : l.findIdx? (fun x => decide (t = x)) with
        | none => rw [hf] at h1; simp at h1 <;> omega
        | some k => rw [hf] at h1; simp at h1; simp [hf]; omega
    · have he : t = a := of_decide_eq_true h
      subst he
      exact .inr ⟨0, by simp, rfl⟩
theorem zip_not {t : ByteArray} {ns : List ByteArray} {ts : List Y} (h : t ∉ ns) (x : Y) : (t, x) ∉ ns.zip ts := fun hm => h (List.of_mem_zip hm).1
theorem fun_snoc {m : Bnd} {t : ByteArray} {y : Y} (h : Fun1 m) (hn : ∀ x, (t, x) ∉ m) : Fun1 (m ++ [(t, y)]) := by
  intro t' x z hx hz
  rcases List.mem_append.1 hx with h1 | h1 <;> rcases List.mem_append.1 hz with h2 | h2
  · exact h t' x z h1 h2
  · obtain ⟨rfl, rfl⟩ : t' = t ∧ z = y := by simpa using h2
    exact absurd h1 (hn x)
  · obtain ⟨rfl, rfl⟩ : t' = t ∧ x = y := by simpa using h1
    exact absurd h2 (hn z)
  · obtain ⟨rfl, rfl⟩ : t' = t ∧ x = y := by simpa using h1
    have := List.mem_singleton.1 h2
    simpa using this.symm
structure FitI (ps : List ByteArray) (g : Bool) (Q : List (Y × Y)) (ns : List ByteArray) (ts : List Y) : Prop where
  len : ns.length = ts.length
  one : Fun1 (ns.zip ts)
  good : Good ps (ns.zip ts) Q ↔ g = true
  mass : ns.length + (Q.map qm).sum ≤ 1048576
  qs : ∀ q ∈ Q, q.1.mass ≤ 1048576 ∧ q.2.mass ≤ 1048576
  tys : ∀ y ∈ ts, y.mass ≤ 1048576
theorem bool_false {g : Bool} {P : Prop} (h : P ↔ g = true) (hn : ¬ P) : g = false := by cases g; rfl; exact absurd (h.2 rfl) hn
theorem as_mass (b : Y) : ∀ x ∈ b.as, x.mass ≤ b.mass := by
  intro x hx
  obtain ⟨k, t, l⟩ := b
  have := sum_mem' Y.mass hx
  rw [Y.mass, Y.masses_sum]
  simp only [Y.as] at this
  omega
theorem fit_in {ps : List ByteArray} {g : Bool} {k : Int} {t : ByteArray} {l : List Y} {b : Y} {r : List (Y × Y)} {ns : List ByteArray} {ts : List Y} (h : FitI ps g ((.mk k t l, b) :: r) ns ts) (h1 : parB ps k t = false) (h2 : headB k t l b = true) : FitI ps g (r ++ l.zip b.as) ns ts := by
  have hq : (Y.mk k t l).mass ≤ 1048576 ∧ b.mass ≤ 1048576 := h.qs (.mk k t l, b) (by simp)
  have hma : (Y.mk k t l).mass = far k + (t.size + 1) + ((l.map Y.mass).sum + 1) := by rw [Y.mass, Y.masses_sum]
  have hm := h.mass
  refine ⟨h.len, h.one, (good_in ps _ h1 h2 r).symm.trans h.good, ?_, fun q hq' => ?_, h.tys⟩
  · rw [List.map_cons, List.sum_cons] at hm
    have := zip_mass l b.as
    rw [List.map_append, List.sum_append]
    simp only [qm] at hm
    omega
  · rcases List.mem_append.1 hq' with h3 | h3
    · exact h.qs q (List.mem_cons_of_mem _ h3)
    · have h4 := List.of_mem_zip (a := q.1) (b := q.2) h3
      have h5 := sum_mem' Y.mass h4.1
      have h6 := as_mass b _ h4.2
      omega
theorem fit_bind {ps : List ByteArray} {g : Bool} {k : Int} {t : ByteArray} {l : List Y} {b : Y} {r : List (Y × Y)} {ns : List ByteArray} {ts : List Y} (h : FitI ps g ((.mk k t l, b) :: r) ns ts) (h1 : parB ps k t = true) (hn : t ∉ ns) : FitI ps g r (ns ++ [t]) (ts ++ [b]) := by
  have hq := h.qs (.mk k t l, b) (by simp)
  have hm := h.mass
  have hp := (Y.mk k t l).mass_pos
  have hz : (ns ++ [t]).zip (ts ++ [b]) = ns.zip ts ++ [(t, b)] := by rw [List.zip_append h.len]; rfl
  refine ⟨by simp [h.len], ?_, ?_, ?_, fun q hq' => h.qs q (List.mem_cons_of_mem _ hq'), fun y hy => ?_⟩
  · rw [hz]; exact fun_snoc h.one fun x => zip_not hn x
  · rw [hz]; exact (good_bind ps _ h1 r).symm.trans h.good
  · rw [List.map_cons, List.sum_cons] at hm
    simp only [qm, List.length_append, List.length_cons, List.length_nil] at hm ⊢
    omega
  · rcases List.mem_append.1 hy with h3 | h3
    · exact h.tys y h3
    · rw [List.mem_singleton.1 h3]; exact hq.2
theorem fit_have {ps : List ByteArray} {g : Bool} {k : Int} {t : ByteArray} {l : List Y} {b : Y} {r : List (Y × Y)} {ns : List ByteArray} {ts : List Y} (h : FitI ps g ((.mk k t l, b) :: r) ns ts) (h1 : parB ps k t = true) (hm : (t, b) ∈ ns.zip ts) : FitI ps g r ns ts := by
  have hms := h.mass
  refine ⟨h.len, h.one, (good_have ps _ h1 hm r).symm.trans h.good, ?_, fun q hq' => h.qs q (List.mem_cons_of_mem _ hq'), h.tys⟩
  rw [List.map_cons, List.sum_cons] at hms
  omega
theorem qm_lt {x : Y × Y} {r : List (Y × Y)} : (r.map qm).sum < ((x :: r).map qm).sum := by
  have := x.1.mass_pos
  rw [List.map_cons, List.sum_cons]
  simp only [qm]
  omega
theorem qlen (Q : List (Y × Y)) : Q.length ≤ (Q.map qm).sum := len_sum' qm (fun q => q.1.mass_pos) Q
set_option maxRecDepth 100000 in
set_option maxHeartbeats 8000000 in
theorem fitting_af (ps : List ByteArray) (a b : Y) (g : Bool) (hg : Good ps [] [(a, b)] ↔ g = true) (ha : a.mass ≤ 1048576) (hb : b.mass ≤ 1048576) : AF Tryd.prog 49 [strRow ps, a.t, b.t] (· = .lit (.bool g)) := by
  have h0 : FitI ps g [(a, b)] [] [] := ⟨rfl, fun t x y hx => by simp at hx, hg, by simpa [qm] using ha, fun q hq => by rw [List.mem_singleton.1 hq]; exact ⟨ha, hb⟩, fun y hy => by simp at hy⟩
  have hmk : ∀ y : Y, y.mass ≤ 1048576 → AF Tryd.prog 34 [y.t] (· = .lit (.string (bs y.mark))) := fun y hy => typeMarkL_af y (y.slim_of hy) (by have := y.mark_le hy; omega)
  have hco := fun s => contains_af ps s
  clear hg ha hb
  obtain ⟨ka, ta, la⟩ := a
  obtain ⟨kb, tb, lb⟩ := b
  refine af_enter tok Tryd.func49 Tryd.ntmps49 Tryd.results49 rfl (by kernel_rfl) rfl rfl fun F hX => ?_
  repeat (first | refine gG ?_ | refine zN1 (fun hlen => ?_) | refine zN2 (fun hlen => ?_) | refine zAl (fun _ => ?_) | refine zBf ?_ | refine zAp (fun _ => ?_))
  rename_i b7
  refine zBda ?_
  repeat (first | refine gX ?_ | refine zN1 (fun hlen => ?_) | refine zN2 (fun hlen => ?_) | refine zAl (fun _ => ?_) | refine zBx (fun _ => ?_) | refine zAp (fun _ => ?_))
  refine zBo (fun v0 => ?_)
  repeat (first | refine gG ?_ | refine zN1 (fun hlen => ?_) | refine zN2 (fun hlen => ?_) | refine zAl (fun _ => ?_) | refine zBx (fun _ => ?_) | refine zAp (fun _ => ?_))
  refine x_own_cell 0 0 9 1 rfl rfl rfl rfl rfl rfl ?_
  refine x_own_cell 0 1 64 3 rfl rfl rfl rfl rfl rfl ?_
  refine x_loop [6, 8, 9, 10, 11, 12, 18, 19, 20, 21, 22, 23, 24, 25, 26, 27, 28, 29, 30, 31, 32, 33, 34, 35, 36, 37, 38, 39, 40, 41, 42, 43, 44, 45, 46, 47, 48, 49, 50, 51, 52, 53, 54, 55, 56, 57, 58, 59, 60, 61, 62, 63, 64, 65, 66, 67, 68, 69, 70, 71, 72, 73, 74, 75, 76, 77, 78, 79, 80, 81, 82, 83, 84, 85, 86, 87, 88, 89, 90, 91, 92, 93, 94, 95, 96, 97, 98, 99, 100, 101, 102, 103, 104, 105, 106, 107, 108, 109, 110] (fun z : List (Y × Y) × Value × List ByteArray × List Y × Value × Value => [(8, .own 1 z.2.1)]) (fun z => [.box b7 199 [.own 2 z.2.2.2.2.1, .own 3 z.2.2.2.2.2], .row z.2.1 200 6 z.1.length (qall z.1), .row z.2.2.2.2.1 9 1 z.2.2.1.length (z.2.2.1.flatMap strTs), .row z.2.2.2.2.2 64 3 z.2.2.2.1.length (Y.all z.2.2.2.1)]) (fun z => FitI ps g z.1 z.2.2.1 z.2.2.2.1) (fun z => (z.1.map qm).sum) ([(.mk ka ta la, .mk kb tb lb)], v0, [], [], .slice none 0 0, .slice none 0 0) h0 ⟨rfl, trivial⟩ rfl ?_
  clear h0
  rintro ⟨Q, vQ, ns, ts, vN, vT⟩ h
  dsimp only at h ⊢
  rcases Q with _ | ⟨⟨⟨k, t, l⟩, ⟨k2, t2, l2⟩⟩, r⟩
  · have hgt : g = true := h.good.1 (good_nil ps h.one)
    clear h hmk hco
    repeat (first | refine gG ?_ | refine zN1 (fun hlen => ?_) | refine zN2 (fun hlen => ?_) | refine zAl (fun _ => ?_) | refine zBx (fun _ => ?_) | refine zAp (fun _ => ?_))
    first | refine zR ?_ | refine zQ ?_
    rw [hgt]; rfl
  have hql := qlen ((Y.mk k t l, Y.mk k2 t2 l2) :: r)
  have hms := h.mass
  have hQl : r.length + 1 ≤ 1048576 := by rw [List.length_cons] at hql; omega
  have hnl : ns.length + 1 ≤ 1048576 := by rw [List.length_cons] at hql; omega
  have htl : ts.length + 1 ≤ 1048576 := by rw [← h.len]; exact hnl
  have hpos : decide ((0 : Int) < (((r.length + 1 : Nat)) : Int)) = true := decide_eq_true (by omega)
  have hc1 := hco t
  have hix := idxStr_af ns t
  have hpc := pos_cases t ns
  have hmy := hmk (Y.mk k2 t2 l2) (h.qs (.mk k t l, .mk k2 t2 l2) (by simp)).2
  have hmt := fun y (hy : y ∈ ts) => hmk y (h.tys y hy)
  have hlt : ((l.map Y.mass).sum + r.length) + 1 ≤ 1048576 := by
    have hma : (Y.mk k t l).mass = far k + (t.size + 1) + ((l.map Y.mass).sum + 1) := by rw [Y.mass, Y.masses_sum]
    have := qlen r
    rw [List.map_cons, List.sum_cons] at hms
    simp only [qm] at hms
    omega
  have hll : l.length ≤ (l.map Y.mass).sum := len_sum' Y.mass Y.mass_pos l
  clear hql hms hmk hco
  repeat (first | refine gG ?_ | refine zN1 (fun hlen => ?_) | refine zN2 (fun hlen => ?_) | refine zAl (fun _ => ?_) | refine zBx (fun _ => ?_) | refine zAp (fun _ => ?_))
  refine x_row 1 rfl (show 0 < r.length + 1 by omega) (fun hvQ => ?_)
  refine x_join [9, 10, 21, 22, 23, 24, 25, 26, 27, 28] (fun a : Nat × Nat × Bool => bif a.2.2 then [(9, .ptr 4 a.1 0), (10, .ptr 5 a.2.1 0)] else [(9, .ptr 5 a.1 0), (10, .ptr 4 a.2.1 0)]) (fun a => bif a.2.2 then [.box b7 199 [.own 2 vN, .own 3 vT], .row vQ 200 6 (r.length + 1) (qall ((.mk k t l, .mk k2 t2 l2) :: r)), .row vN 9 1 ns.length (ns.flatMap strTs), .row vT 64 3 ts.length (Y.all ts)] ++ [.box a.1 64 [.c (.lit (.int .i64 k)), .c (.lit (.string t)), .c (Y.row l)], .box a.2.1 64 [.c (.lit (.int .i64 k2)), .c (.lit (.string t2)), .c (Y.row l2)]] else [.box b7 199 [.own 2 vN, .own 3 vT], .row vQ 200 6 (r.length + 1) (qall ((.mk k t l, .mk k2 t2 l2) :: r)), .row vN 9 1 ns.length (ns.flatMap strTs), .row vT 64 3 ts.length (Y.all ts)] ++ [.box a.2.1 64 [.c (.lit (.int .i64 k2)), .c (.lit (.string t2)), .c (Y.row l2)], .box a.1 64 [.c (.lit (.int .i64 k)), .c (.lit (.string t)), .c (Y.row l)]]) (fun a => ?_) ?_
  rotate_left
  · skip
    refine ac_drawT3 [0, 0, 0, 2, 0, 0, 0, 2, 3, 3, 2, 2] (.fork4 [0, 1, 2, 4, 5, 6] 3 (.fork3 [] 7 (.fork [] 8 (.fin [9, 10, 11]) 9 (.fin [8, 10, 11])) 8 (.fork [] 7 (.fin [9, 10, 11]) 9 (.fork [] 7 (.fin [10, 11]) 10 (.fin [7, 11]))) 9 (.fork [] 7 (.fin [8, 10, 11]) 8 (.fork [] 7 (.fin [10, 11]) 10 (.fin [7, 11])))) 7 (.fork3 [] 3 (.fork [] 8 (.fin [9, 10, 11]) 9 (.fin [8, 10, 11])) 8 (.fork [] 3 (.fin [9, 10, 11]) 9 (.fin [3, 10, 11])) 9 (.fork [] 3 (.fin [8, 10, 11]) 8 (.fin [3, 10, 11]))) 8 (.fork3 [] 3 (.fork [] 7 (.fin [9, 10, 11]) 9 (.fork [] 7 (.fin [10, 11]) 10 (.fin [7, 11]))) 7 (.fork [] 3 (.fin [9, 10, 11]) 9 (.fin [3, 10, 11])) 9 (.fork [] 3 (.fork [] 7 (.fin [10, 11]) 10 (.fin [7, 11])) 7 (.fin [3, 10, 11]))) 9 (.fork3 [] 3 (.fork [] 7 (.fin [8, 10, 11]) 8 (.fork [] 7 (.fin [10, 11]) 10 (.fin [7, 11]))) 7 (.fork [] 3 (.fin [8, 10, 11]) 8 (.fin [3, 10, 11])) 8 (.fork [] 3 (.fork [] 7 (.fin [10, 11]) 10 (.fin [7, 11])) 7 (.fin [3, 10, 11])))) (by kernel_rfl) (by kernel_rfl) ?_
    refine wtt_fork4 ?_
    refine gW ?_
    apply w_p; (focus exact rfl); (focus exact rfl); focus (intro _; (refine zIxp (n := r.length + 1) 0 hvQ (show 0 < r.length + 1 by omega) ?_); exact det_refl)
    apply w_p; (focus exact rfl); (focus exact rfl); focus (intro _; (refine zIxa (n := 2) 0 (by decide) ?_); exact det_refl)
    refine gW ?_
    apply w_p; (focus exact rfl); (focus exact rfl); focus (intro _; (refine zIxp (n := r.length + 1) 0 hvQ (show 0 < r.length + 1 by omega) ?_); exact det_refl)
    apply w_p; (focus exact rfl); (focus exact rfl); focus (intro _; (refine zIxa (n := 2) 1 (by decide) ?_); exact det_refl)
    refine w_nil ?_
    refine ⟨?_, ?_, ?_, ?_⟩
    · apply w_l; (focus exact rfl); (focus exact rfl); (refine zElo (ts := Y.ts (.mk k t l)) rfl rfl ?_)
      refine w_nil ?_
      refine wtt_fork3 ?_
      refine w_nil ?_
      refine ⟨?_, ?_, ?_⟩
      · apply w_l; (focus exact rfl); (focus exact rfl); (refine zElo (ts := Y.ts (.mk k2 t2 l2)) rfl rfl ?_)
        refine w_nil ?_
        refine wtt_fork ?_
        refine w_nil ?_
        refine ⟨?_, ?_⟩
        · apply w_a; (focus exact rfl); (focus exact rfl); refine v_alloc tok rfl rfl rfl (fun _ => rfl) (fun _ => ⟨⟨_, rfl⟩, ?_⟩)
          refine w_nil ?_
          refine wtt_fin ?_
          apply w_a; (focus exact rfl); (focus exact rfl); refine v_alloc tok rfl rfl rfl (fun _ => rfl) (fun _ => ⟨⟨_, rfl⟩, ?_⟩)
          apply w_l; (focus exact rfl); (focus exact rfl); (refine zS ?_)
          apply w_l; (focus exact rfl); (focus exact rfl); (refine zS ?_)
          refine w_nil ?_
          first | exact ⟨(_, _, true), x_wkd 6 ⟨rfl, rfl, trivial⟩ rfl (by repeat (first | exact ag_refl | refine ag_upd rfl ?_ | refine ag_at rfl rfl ?_))⟩ | exact ⟨(_, _, false), x_wkd 6 ⟨rfl, rfl, trivial⟩ rfl (by repeat (first | exact ag_refl | refine ag_upd rfl ?_ | refine ag_at rfl rfl ?_))⟩
        · apply w_a; (focus exact rfl); (focus exact rfl); refine v_alloc tok rfl rfl rfl (fun _ => rfl) (fun _ => ⟨⟨_, rfl⟩, ?_⟩)
          refine w_nil ?_
          refine wtt_fin ?_
          apply w_a; (focus exact rfl); (focus exact rfl); refine v_alloc tok rfl rfl rfl (fun _ => rfl) (fun _ => ⟨⟨_, rfl⟩, ?_⟩)
          apply w_l; (focus exact rfl); (focus exact rfl); (refine zS ?_)
          apply w_l; (focus exact rfl); (focus exact rfl); (refine zS ?_)
          refine w_nil ?_
          first | exact ⟨(_, _, true), x_wkd 6 ⟨rfl, rfl, trivial⟩ rfl (by repeat (first | exact ag_refl | refine ag_upd rfl ?_ | refine ag_at rfl rfl ?_))⟩ | exact ⟨(_, _, false), x_wkd 6 ⟨rfl, rfl, trivial⟩ rfl (by repeat (first | exact ag_refl | refine ag_upd rfl ?_ | refine ag_at rfl rfl ?_))⟩
      · apply w_a; (focus exact rfl); (focus exact rfl); refine v_alloc tok rfl rfl rfl (fun _ => rfl) (fun _ => ⟨⟨_, rfl⟩, ?_⟩)
        refine w_nil ?_
        refine wtt_fork ?_
        refine w_nil ?_
        refine ⟨?_, ?_⟩
        · apply w_l; (focus exact rfl); (focus exact rfl); (refine zElo (ts := Y.ts (.mk k2 t2 l2)) rfl rfl ?_)
          refine w_nil ?_
          refine wtt_fin ?_
          apply w_a; (focus exact rfl); (focus exact rfl); refine v_alloc tok rfl rfl rfl (fun _ => rfl) (fun _ => ⟨⟨_, rfl⟩, ?_⟩)
          apply w_l; (focus exact rfl); (focus exact rfl); (refine zS ?_)
          apply w_l; (focus exact rfl); (focus exact rfl); (refine zS ?_)
          refine w_nil ?_
          first | exact ⟨(_, _, true), x_wkd 6 ⟨rfl, rfl, trivial⟩ rfl (by repeat (first | exact ag_refl | refine ag_upd rfl ?_ | refine ag_at rfl rfl ?_))⟩ | exact ⟨(_, _, false), x_wkd 6 ⟨rfl, rfl, trivial⟩ rfl (by repeat (first | exact ag_refl | refine ag_upd rfl ?_ | refine ag_at rfl rfl ?_))⟩
        · apply w_a; (focus exact rfl); (focus exact rfl); refine v_alloc tok rfl rfl rfl (fun _ => rfl) (fun _ => ⟨⟨_, rfl⟩, ?_⟩)
          refine w_nil ?_
          refine wtt_fork ?_
          refine w_nil ?_
          refine ⟨?_, ?_⟩
          · apply w_l; (focus exact rfl); (focus exact rfl); (refine zElo (ts := Y.ts (.mk k2 t2 l2)) rfl rfl ?_)
            refine w_nil ?_
            refine wtt_fin ?_
            apply w_l; (focus exact rfl); (focus exact rfl); (refine zS ?_)
            apply w_l; (focus exact rfl); (focus exact rfl); (refine zS ?_)
            refine w_nil ?_
            first | exact ⟨(_, _, true), x_wkd 6 ⟨rfl, rfl, trivial⟩ rfl (by repeat (first | exact ag_refl | refine ag_upd rfl ?_ | refine ag_at rfl rfl ?_))⟩ | exact ⟨(_, _, false), x_wkd 6 ⟨rfl, rfl, trivial⟩ rfl (by repeat (first | exact ag_refl | refine ag_upd rfl ?_ | refine ag_at rfl rfl ?_))⟩
          · apply w_l; (focus exact rfl); (focus exact rfl); (refine zS ?_)
            refine w_nil ?_
            refine wtt_fin ?_
            apply w_l; (focus exact rfl); (focus exact rfl); (refine zElo (ts := Y.ts (.mk k2 t2 l2)) rfl rfl ?_)
            apply w_l; (focus exact rfl); (focus exact rfl); (refine zS ?_)
            refine w_nil ?_
            first | exact ⟨(_, _, true), x_wkd 6 ⟨rfl, rfl, trivial⟩ rfl (by repeat (first | exact ag_refl | refine ag_upd rfl ?_ | refine ag_at rfl rfl ?_))⟩ | exact ⟨(_, _, false), x_wkd 6 ⟨rfl, rfl, trivial⟩ rfl (by repeat (first | exact ag_refl | refine ag_upd rfl ?_ | refine ag_at rfl rfl ?_))⟩
      · apply w_a; (focus exact rfl); (focus exact rfl); refine v_alloc tok rfl rfl rfl (fun _ => rfl) (fun _ => ⟨⟨_, rfl⟩, ?_⟩)
        refine w_nil ?_
        refine wtt_fork ?_
        refine w_nil ?_
        refine ⟨?_, ?_⟩
        · apply w_l; (focus exact rfl); (focus exact rfl); (refine zElo (ts := Y.ts (.mk k2 t2 l2)) rfl rfl ?_)
          refine w_nil ?_
          refine wtt_fin ?_
          apply w_a; (focus exact rfl); (focus exact rfl); refine v_alloc tok rfl rfl rfl (fun _ => rfl) (fun _ => ⟨⟨_, rfl⟩, ?_⟩)
          apply w_l; (focus exact rfl); (focus exact rfl); (refine zS ?_)
          apply w_l; (focus exact rfl); (focus exact rfl); (refine zS ?_)
          refine w_nil ?_
          first | exact ⟨(_, _, true), x_wkd 6 ⟨rfl, rfl, trivial⟩ rfl (by repeat (first | exact ag_refl | refine ag_upd rfl ?_ | refine ag_at rfl rfl ?_))⟩ | exact ⟨(_, _, false), x_wkd 6 ⟨rfl, rfl, trivial⟩ rfl (by repeat (first | exact ag_refl | refine ag_upd rfl ?_ | refine ag_at rfl rfl ?_))⟩
        · apply w_a; (focus exact rfl); (focus exact rfl); refine v_alloc tok rfl rfl rfl (fun _ => rfl) (fun _ => ⟨⟨_, rfl⟩, ?_⟩)
          refine w_nil ?_
          refine wtt_fork ?_
          refine w_nil ?_
          refine ⟨?_, ?_⟩
          · apply w_l; (focus exact rfl); (focus exact rfl); (refine zElo (ts := Y.ts (.mk k2 t2 l2)) rfl rfl ?_)
            refine w_nil ?_
            refine wtt_fin ?_
            apply w_l; (focus exact rfl); (focus exact rfl); (refine zS ?_)
            apply w_l; (focus exact rfl); (focus exact rfl); (refine zS ?_)
            refine w_nil ?_
            first | exact ⟨(_, _, true), x_wkd 6 ⟨rfl, rfl, trivial⟩ rfl (by repeat (first | exact ag_refl | refine ag_upd rfl ?_ | refine ag_at rfl rfl ?_))⟩ | exact ⟨(_, _, false), x_wkd 6 ⟨rfl, rfl, trivial⟩ rfl (by repeat (first | exact ag_refl | refine ag_upd rfl ?_ | refine ag_at rfl rfl ?_))⟩
          · apply w_l; (focus exact rfl); (focus exact rfl); (refine zS ?_)
            refine w_nil ?_
            refine wtt_fin ?_
            apply w_l; (focus exact rfl); (focus exact rfl); (refine zElo (ts := Y.ts (.mk k2 t2 l2)) rfl rfl ?_)
            apply w_l; (focus exact rfl); (focus exact rfl); (refine zS ?_)
            refine w_nil ?_
            first | exact ⟨(_, _, true), x_wkd 6 ⟨rfl, rfl, trivial⟩ rfl (by repeat (first | exact ag_refl | refine ag_upd rfl ?_ | refine ag_at rfl rfl ?_))⟩ | exact ⟨(_, _, false), x_wkd 6 ⟨rfl, rfl, trivial⟩ rfl (by repeat (first | exact ag_refl | refine ag_upd rfl ?_ | refine ag_at rfl rfl ?_))⟩
    · apply w_l; (focus exact rfl); (focus exact rfl); (refine zElo (ts := Y.ts (.mk k2 t2 l2)) rfl rfl ?_)
      refine w_nil ?_
      refine wtt_fork3 ?_
      refine w_nil ?_
      refine ⟨?_, ?_, ?_⟩
      · apply w_l; (focus exact rfl); (focus exact rfl); (refine zElo (ts := Y.ts (.mk k t l)) rfl rfl ?_)
        refine w_nil ?_
        refine wtt_fork ?_
        refine w_nil ?_
        refine ⟨?_, ?_⟩
        · apply w_a; (focus exact rfl); (focus exact rfl); refine v_alloc tok rfl rfl rfl (fun _ => rfl) (fun _ => ⟨⟨_, rfl⟩, ?_⟩)
          refine w_nil ?_
          refine wtt_fin ?_
          apply w_a; (focus exact rfl); (focus exact rfl); refine v_alloc tok rfl rfl rfl (fun _ => rfl) (fun _ => ⟨⟨_, rfl⟩, ?_⟩)
          apply w_l; (focus exact rfl); (focus exact rfl); (refine zS ?_)
          apply w_l; (focus exact rfl); (focus exact rfl); (refine zS ?_)
          refine w_nil ?_
          first | exact ⟨(_, _, true), x_wkd 6 ⟨rfl, rfl, trivial⟩ rfl (by repeat (first | exact ag_refl | refine ag_upd rfl ?_ | refine ag_at rfl rfl ?_))⟩ | exact ⟨(_, _, false), x_wkd 6 ⟨rfl, rfl, trivial⟩ rfl (by repeat (first | exact ag_refl | refine ag_upd rfl ?_ | refine ag_at rfl rfl ?_))⟩
        · apply w_a; (focus exact rfl); (focus exact rfl); refine v_alloc tok rfl rfl rfl (fun _ => rfl) (fun _ => ⟨⟨_, rfl⟩, ?_⟩)
          refine w_nil ?_
          refine wtt_fin ?_
          apply w_a; (focus exact rfl); (focus exact rfl); refine v_alloc tok rfl rfl rfl (fun _ => rfl) (fun _ => ⟨⟨_, rfl⟩, ?_⟩)
          apply w_l; (focus exact rfl); (focus exact rfl); (refine zS ?_)
          apply w_l; (focus exact rfl); (focus exact rfl); (refine zS ?_)
          refine w_nil ?_
          first | exact ⟨(_, _, true), x_wkd 6 ⟨rfl, rfl, trivial⟩ rfl (by repeat (first | exact ag_refl | refine ag_upd rfl ?_ | refine ag_at rfl rfl ?_))⟩ | exact ⟨(_, _, false), x_wkd 6 ⟨rfl, rfl, trivial⟩ rfl (by repeat (first | exact ag_refl | refine ag_upd rfl ?_ | refine ag_at rfl rfl ?_))⟩
      · apply w_a; (focus exact rfl); (focus exact rfl); refine v_alloc tok rfl rfl rfl (fun _ => rfl) (fun _ => ⟨⟨_, rfl⟩, ?_⟩)
        refine w_nil ?_
        refine wtt_fork ?_
        refine w_nil ?_
        refine ⟨?_, ?_⟩
        · apply w_l; (focus exact rfl); (focus exact rfl); (refine zElo (ts := Y.ts (.mk k t l)) rfl rfl ?_)
          refine w_nil ?_
          refine wtt_fin ?_
          apply w_a; (focus exact rfl); (focus exact rfl); refine v_alloc tok rfl rfl rfl (fun _ => rfl) (fun _ => ⟨⟨_, rfl⟩, ?_⟩)
          apply w_l; (focus exact rfl); (focus exact rfl); (refine zS ?_)
          apply w_l; (focus exact rfl); (focus exact rfl); (refine zS ?_)
          refine w_nil ?_
          first | exact ⟨(_, _, true), x_wkd 6 ⟨rfl, rfl, trivial⟩ rfl (by repeat (first | exact ag_refl | refine ag_upd rfl ?_ | refine ag_at rfl rfl ?_))⟩ | exact ⟨(_, _, false), x_wkd 6 ⟨rfl, rfl, trivial⟩ rfl (by repeat (first | exact ag_refl | refine ag_upd rfl ?_ | refine ag_at rfl rfl ?_))⟩
        · apply w_a; (focus exact rfl); (focus exact rfl); refine v_alloc tok rfl rfl rfl (fun _ => rfl) (fun _ => ⟨⟨_, rfl⟩, ?_⟩)
          refine w_nil ?_
          refine wtt_fin ?_
          apply w_l; (focus exact rfl); (focus exact rfl); (refine zElo (ts := Y.ts (.mk k t l)) rfl rfl ?_)
          apply w_l; (focus exact rfl); (focus exact rfl); (refine zS ?_)
          apply w_l; (focus exact rfl); (focus exact rfl); (refine zS ?_)
          refine w_nil ?_
          first | exact ⟨(_, _, true), x_wkd 6 ⟨rfl, rfl, trivial⟩ rfl (by repeat (first | exact ag_refl | refine ag_upd rfl ?_ | refine ag_at rfl rfl ?_))⟩ | exact ⟨(_, _, false), x_wkd 6 ⟨rfl, rfl, trivial⟩ rfl (by repeat (first | exact ag_refl | refine ag_upd rfl ?_ | refine ag_at rfl rfl ?_))⟩
      · apply w_a; (focus exact rfl); (focus exact rfl); refine v_alloc tok rfl rfl rfl (fun _ => rfl) (fun _ => ⟨⟨_, rfl⟩, ?_⟩)
        refine w_nil ?_
        refine wtt_fork ?_
        refine w_nil ?_
        refine ⟨?_, ?_⟩
        · apply w_l; (focus exact rfl); (focus exact rfl); (refine zElo (ts := Y.ts (.mk k t l)) rfl rfl ?_)
          refine w_nil ?_
          refine wtt_fin ?_
          apply w_a; (focus exact rfl); (focus exact rfl); refine v_alloc tok rfl rfl rfl (fun _ => rfl) (fun _ => ⟨⟨_, rfl⟩, ?_⟩)
          apply w_l; (focus exact rfl); (focus exact rfl); (refine zS ?_)
          apply w_l; (focus exact rfl); (focus exact rfl); (refine zS ?_)
          refine w_nil ?_
          first | exact ⟨(_, _, true), x_wkd 6 ⟨rfl, rfl, trivial⟩ rfl (by repeat (first | exact ag_refl | refine ag_upd rfl ?_ | refine ag_at rfl rfl ?_))⟩ | exact ⟨(_, _, false), x_wkd 6 ⟨rfl, rfl, trivial⟩ rfl (by repeat (first | exact ag_refl | refine ag_upd rfl ?_ | refine ag_at rfl rfl ?_))⟩
        · apply w_a; (focus exact rfl); (focus exact rfl); refine v_alloc tok rfl rfl rfl (fun _ => rfl) (fun _ => ⟨⟨_, rfl⟩, ?_⟩)
          refine w_nil ?_
          refine wtt_fin ?_
          apply w_l; (focus exact rfl); (focus exact rfl); (refine zElo (ts := Y.ts (.mk k t l)) rfl rfl ?_)
          apply w_l; (focus exact rfl); (focus exact rfl); (refine zS ?_)
          apply w_l; (focus exact rfl); (focus exact rfl); (refine zS ?_)
          refine w_nil ?_
          first | exact ⟨(_, _, true), x_wkd 6 ⟨rfl, rfl, trivial⟩ rfl (by repeat (first | exact ag_refl | refine ag_upd rfl ?_ | refine ag_at rfl rfl ?_))⟩ | exact ⟨(_, _, false), x_wkd 6 ⟨rfl, rfl, trivial⟩ rfl (by repeat (first | exact ag_refl | refine ag_upd rfl ?_ | refine ag_at rfl rfl ?_))⟩
    · apply w_a; (focus exact rfl); (focus exact rfl); refine v_alloc tok rfl rfl rfl (fun _ => rfl) (fun _ => ⟨⟨_, rfl⟩, ?_⟩)
      refine w_nil ?_
      refine wtt_fork3 ?_
      refine w_nil ?_
      refine ⟨?_, ?_, ?_⟩
      · apply w_l; (focus exact rfl); (focus exact rfl); (refine zElo (ts := Y.ts (.mk k t l)) rfl rfl ?_)
        refine w_nil ?_
        refine wtt_fork ?_
        refine w_nil ?_
        refine ⟨?_, ?_⟩
        · apply w_l; (focus exact rfl); (focus exact rfl); (refine zElo (ts := Y.ts (.mk k2 t2 l2)) rfl rfl ?_)
          refine w_nil ?_
          refine wtt_fin ?_
          apply w_a; (focus exact rfl); (focus exact rfl); refine v_alloc tok rfl rfl rfl (fun _ => rfl) (fun _ => ⟨⟨_, rfl⟩, ?_⟩)
          apply w_l; (focus exact rfl); (focus exact rfl); (refine zS ?_)
          apply w_l; (focus exact rfl); (focus exact rfl); (refine zS ?_)
          refine w_nil ?_
          first | exact ⟨(_, _, true), x_wkd 6 ⟨rfl, rfl, trivial⟩ rfl (by repeat (first | exact ag_refl | refine ag_upd rfl ?_ | refine ag_at rfl rfl ?_))⟩ | exact ⟨(_, _, false), x_wkd 6 ⟨rfl, rfl, trivial⟩ rfl (by repeat (first | exact ag_refl | refine ag_upd rfl ?_ | refine ag_at rfl rfl ?_))⟩
        · apply w_a; (focus exact rfl); (focus exact rfl); refine v_alloc tok rfl rfl rfl (fun _ => rfl) (fun _ => ⟨⟨_, rfl⟩, ?_⟩)
          refine w_nil ?_
          refine wtt_fork ?_
          refine w_nil ?_
          refine ⟨?_, ?_⟩
          · apply w_l; (focus exact rfl); (focus exact rfl); (refine zElo (ts := Y.ts (.mk k2 t2 l2)) rfl rfl ?_)
            refine w_nil ?_
            refine wtt_fin ?_
            apply w_l; (focus exact rfl); (focus exact rfl); (refine zS ?_)
            apply w_l; (focus exact rfl); (focus exact rfl); (refine zS ?_)
            refine w_nil ?_
            first | exact ⟨(_, _, true), x_wkd 6 ⟨rfl, rfl, trivial⟩ rfl (by repeat (first | exact ag_refl | refine ag_upd rfl ?_ | refine ag_at rfl rfl ?_))⟩ | exact ⟨(_, _, false), x_wkd 6 ⟨rfl, rfl, trivial⟩ rfl (by repeat (first | exact ag_refl | refine ag_upd rfl ?_ | refine ag_at rfl rfl ?_))⟩
          · apply w_l; (focus exact rfl); (focus exact rfl); (refine zS ?_)
            refine w_nil ?_
            refine wtt_fin ?_
            apply w_l; (focus exact rfl); (focus exact rfl); (refine zElo (ts := Y.ts (.mk k2 t2 l2)) rfl rfl ?_)
            apply w_l; (focus exact rfl); (focus exact rfl); (refine zS ?_)
            refine w_nil ?_
            first | exact ⟨(_, _, true), x_wkd 6 ⟨rfl, rfl, trivial⟩ rfl (by repeat (first | exact ag_refl | refine ag_upd rfl ?_ | refine ag_at rfl rfl ?_))⟩ | exact ⟨(_, _, false), x_wkd 6 ⟨rfl, rfl, trivial⟩ rfl (by repeat (first | exact ag_refl | refine ag_upd rfl ?_ | refine ag_at rfl rfl ?_))⟩
      · apply w_l; (focus exact rfl); (focus exact rfl); (refine zElo (ts := Y.ts (.mk k2 t2 l2)) rfl rfl ?_)
        refine w_nil ?_
        refine wtt_fork ?_
        refine w_nil ?_
        refine ⟨?_, ?_⟩
        · apply w_l; (focus exact rfl); (focus exact rfl); (refine zElo (ts := Y.ts (.mk k t l)) rfl rfl ?_)
          refine w_nil ?_
          refine wtt_fin ?_
          apply w_a; (focus exact rfl); (focus exact rfl); refine v_alloc tok rfl rfl rfl (fun _ => rfl) (fun _ => ⟨⟨_, rfl⟩, ?_⟩)
          apply w_l; (focus exact rfl); (focus exact rfl); (refine zS ?_)
          apply w_l; (focus exact rfl); (focus exact rfl); (refine zS ?_)
          refine w_nil ?_
          first | exact ⟨(_, _, true), x_wkd 6 ⟨rfl, rfl, trivial⟩ rfl (by repeat (first | exact ag_refl | refine ag_upd rfl ?_ | refine ag_at rfl rfl ?_))⟩ | exact ⟨(_, _, false), x_wkd 6 ⟨rfl, rfl, trivial⟩ rfl (by repeat (first | exact ag_refl | refine ag_upd rfl ?_ | refine ag_at rfl rfl ?_))⟩
        · apply w_a; (focus exact rfl); (focus exact rfl); refine v_alloc tok rfl rfl rfl (fun _ => rfl) (fun _ => ⟨⟨_, rfl⟩, ?_⟩)
          refine w_nil ?_
          refine wtt_fin ?_
          apply w_l; (focus exact rfl); (focus exact rfl); (refine zElo (ts := Y.ts (.mk k t l)) rfl rfl ?_)
          apply w_l; (focus exact rfl); (focus exact rfl); (refine zS ?_)
          apply w_l; (focus exact rfl); (focus exact rfl); (refine zS ?_)
          refine w_nil ?_
          first | exact ⟨(_, _, true), x_wkd 6 ⟨rfl, rfl, trivial⟩ rfl (by repeat (first | exact ag_refl | refine ag_upd rfl ?_ | refine ag_at rfl rfl ?_))⟩ | exact ⟨(_, _, false), x_wkd 6 ⟨rfl, rfl, trivial⟩ rfl (by repeat (first | exact ag_refl | refine ag_upd rfl ?_ | refine ag_at rfl rfl ?_))⟩
      · apply w_a; (focus exact rfl); (focus exact rfl); refine v_alloc tok rfl rfl rfl (fun _ => rfl) (fun _ => ⟨⟨_, rfl⟩, ?_⟩)
        refine w_nil ?_
        refine wtt_fork ?_
        refine w_nil ?_
        refine ⟨?_, ?_⟩
        · apply w_l; (focus exact rfl); (focus exact rfl); (refine zElo (ts := Y.ts (.mk k t l)) rfl rfl ?_)
          refine w_nil ?_
          refine wtt_fork ?_
          refine w_nil ?_
          refine ⟨?_, ?_⟩
          · apply w_l; (focus exact rfl); (focus exact rfl); (refine zElo (ts := Y.ts (.mk k2 t2 l2)) rfl rfl ?_)
            refine w_nil ?_
            refine wtt_fin ?_
            apply w_l; (focus exact rfl); (focus exact rfl); (refine zS ?_)
            apply w_l; (focus exact rfl); (focus exact rfl); (refine zS ?_)
            refine w_nil ?_
            first | exact ⟨(_, _, true), x_wkd 6 ⟨rfl, rfl, trivial⟩ rfl (by repeat (first | exact ag_refl | refine ag_upd rfl ?_ | refine ag_at rfl rfl ?_))⟩ | exact ⟨(_, _, false), x_wkd 6 ⟨rfl, rfl, trivial⟩ rfl (by repeat (first | exact ag_refl | refine ag_upd rfl ?_ | refine ag_at rfl rfl ?_))⟩
          · apply w_l; (focus exact rfl); (focus exact rfl); (refine zS ?_)
            refine w_nil ?_
            refine wtt_fin ?_
            apply w_l; (focus exact rfl); (focus exact rfl); (refine zElo (ts := Y.ts (.mk k2 t2 l2)) rfl rfl ?_)
            apply w_l; (focus exact rfl); (focus exact rfl); (refine zS ?_)
            refine w_nil ?_
            first | exact ⟨(_, _, true), x_wkd 6 ⟨rfl, rfl, trivial⟩ rfl (by repeat (first | exact ag_refl | refine ag_upd rfl ?_ | refine ag_at rfl rfl ?_))⟩ | exact ⟨(_, _, false), x_wkd 6 ⟨rfl, rfl, trivial⟩ rfl (by repeat (first | exact ag_refl | refine ag_upd rfl ?_ | refine ag_at rfl rfl ?_))⟩
        · apply w_l; (focus exact rfl); (focus exact rfl); (refine zElo (ts := Y.ts (.mk k2 t2 l2)) rfl rfl ?_)
          refine w_nil ?_
          refine wtt_fin ?_
          apply w_l; (focus exact rfl); (focus exact rfl); (refine zElo (ts := Y.ts (.mk k t l)) rfl rfl ?_)
          apply w_l; (focus exact rfl); (focus exact rfl); (refine zS ?_)
          apply w_l; (focus exact rfl); (focus exact rfl); (refine zS ?_)
          refine w_nil ?_
          first | exact ⟨(_, _, true), x_wkd 6 ⟨rfl, rfl, trivial⟩ rfl (by repeat (first | exact ag_refl | refine ag_upd rfl ?_ | refine ag_at rfl rfl ?_))⟩ | exact ⟨(_, _, false), x_wkd 6 ⟨rfl, rfl, trivial⟩ rfl (by repeat (first | exact ag_refl | refine ag_upd rfl ?_ | refine ag_at rfl rfl ?_))⟩
    · apply w_a; (focus exact rfl); (focus exact rfl); refine v_alloc tok rfl rfl rfl (fun _ => rfl) (fun _ => ⟨⟨_, rfl⟩, ?_⟩)
      refine w_nil ?_
      refine wtt_fork3 ?_
      refine w_nil ?_
      refine ⟨?_, ?_, ?_⟩
      · apply w_l; (focus exact rfl); (focus exact rfl); (refine zElo (ts := Y.ts (.mk k t l)) rfl rfl ?_)
        refine w_nil ?_
        refine wtt_fork ?_
        refine w_nil ?_
        refine ⟨?_, ?_⟩
        · apply w_l; (focus exact rfl); (focus exact rfl); (refine zElo (ts := Y.ts (.mk k2 t2 l2)) rfl rfl ?_)
          refine w_nil ?_
          refine wtt_fin ?_
          apply w_a; (focus exact rfl); (focus exact rfl); refine v_alloc tok rfl rfl rfl (fun _ => rfl) (fun _ => ⟨⟨_, rfl⟩, ?_⟩)
          apply w_l; (focus exact rfl); (focus exact rfl); (refine zS ?_)
          apply w_l; (focus exact rfl); (focus exact rfl); (refine zS ?_)
          refine w_nil ?_
          first | exact ⟨(_, _, true), x_wkd 6 ⟨rfl, rfl, trivial⟩ rfl (by repeat (first | exact ag_refl | refine ag_upd rfl ?_ | refine ag_at rfl rfl ?_))⟩ | exact ⟨(_, _, false), x_wkd 6 ⟨rfl, rfl, trivial⟩ rfl (by repeat (first | exact ag_refl | refine ag_upd rfl ?_ | refine ag_at rfl rfl ?_))⟩
        · apply w_a; (focus exact rfl); (focus exact rfl); refine v_alloc tok rfl rfl rfl (fun _ => rfl) (fun _ => ⟨⟨_, rfl⟩, ?_⟩)
          refine w_nil ?_
          refine wtt_fork ?_
          refine w_nil ?_
          refine ⟨?_, ?_⟩
          · apply w_l; (focus exact rfl); (focus exact rfl); (refine zElo (ts := Y.ts (.mk k2 t2 l2)) rfl rfl ?_)
            refine w_nil ?_
            refine wtt_fin ?_
            apply w_l; (focus exact rfl); (focus exact rfl); (refine zS ?_)
            apply w_l; (focus exact rfl); (focus exact rfl); (refine zS ?_)
            refine w_nil ?_
            first | exact ⟨(_, _, true), x_wkd 6 ⟨rfl, rfl, trivial⟩ rfl (by repeat (first | exact ag_refl | refine ag_upd rfl ?_ | refine ag_at rfl rfl ?_))⟩ | exact ⟨(_, _, false), x_wkd 6 ⟨rfl, rfl, trivial⟩ rfl (by repeat (first | exact ag_refl | refine ag_upd rfl ?_ | refine ag_at rfl rfl ?_))⟩
          · apply w_l; (focus exact rfl); (focus exact rfl); (refine zS ?_)
            refine w_nil ?_
            refine wtt_fin ?_
            apply w_l; (focus exact rfl); (focus exact rfl); (refine zElo (ts := Y.ts (.mk k2 t2 l2)) rfl rfl ?_)
            apply w_l; (focus exact rfl); (focus exact rfl); (refine zS ?_)
            refine w_nil ?_
            first | exact ⟨(_, _, true), x_wkd 6 ⟨rfl, rfl, trivial⟩ rfl (by repeat (first | exact ag_refl | refine ag_upd rfl ?_ | refine ag_at rfl rfl ?_))⟩ | exact ⟨(_, _, false), x_wkd 6 ⟨rfl, rfl, trivial⟩ rfl (by repeat (first | exact ag_refl | refine ag_upd rfl ?_ | refine ag_at rfl rfl ?_))⟩
      · apply w_l; (focus exact rfl); (focus exact rfl); (refine zElo (ts := Y.ts (.mk k2 t2 l2)) rfl rfl ?_)
        refine w_nil ?_
        refine wtt_fork ?_
        refine w_nil ?_
        refine ⟨?_, ?_⟩
        · apply w_l; (focus exact rfl); (focus exact rfl); (refine zElo (ts := Y.ts (.mk k t l)) rfl rfl ?_)
          refine w_nil ?_
          refine wtt_fin ?_
          apply w_a; (focus exact rfl); (focus exact rfl); refine v_alloc tok rfl rfl rfl (fun _ => rfl) (fun _ => ⟨⟨_, rfl⟩, ?_⟩)
          apply w_l; (focus exact rfl); (focus exact rfl); (refine zS ?_)
          apply w_l; (focus exact rfl); (focus exact rfl); (refine zS ?_)
          refine w_nil ?_
          first | exact ⟨(_, _, true), x_wkd 6 ⟨rfl, rfl, trivial⟩ rfl (by repeat (first | exact ag_refl | refine ag_upd rfl ?_ | refine ag_at rfl rfl ?_))⟩ | exact ⟨(_, _, false), x_wkd 6 ⟨rfl, rfl, trivial⟩ rfl (by repeat (first | exact ag_refl | refine ag_upd rfl ?_ | refine ag_at rfl rfl ?_))⟩
        · apply w_a; (focus exact rfl); (focus exact rfl); refine v_alloc tok rfl rfl rfl (fun _ => rfl) (fun _ => ⟨⟨_, rfl⟩, ?_⟩)
          refine w_nil ?_
          refine wtt_fin ?_
          apply w_l; (focus exact rfl); (focus exact rfl); (refine zElo (ts := Y.ts (.mk k t l)) rfl rfl ?_)
          apply w_l; (focus exact rfl); (focus exact rfl); (refine zS ?_)
          apply w_l; (focus exact rfl); (focus exact rfl); (refine zS ?_)
          refine w_nil ?_
          first | exact ⟨(_, _, true), x_wkd 6 ⟨rfl, rfl, trivial⟩ rfl (by repeat (first | exact ag_refl | refine ag_upd rfl ?_ | refine ag_at rfl rfl ?_))⟩ | exact ⟨(_, _, false), x_wkd 6 ⟨rfl, rfl, trivial⟩ rfl (by repeat (first | exact ag_refl | refine ag_upd rfl ?_ | refine ag_at rfl rfl ?_))⟩
      · apply w_a; (focus exact rfl); (focus exact rfl); refine v_alloc tok rfl rfl rfl (fun _ => rfl) (fun _ => ⟨⟨_, rfl⟩, ?_⟩)
        refine w_nil ?_
        refine wtt_fork ?_
        refine w_nil ?_
        refine ⟨?_, ?_⟩
        · apply w_l; (focus exact rfl); (focus exact rfl); (refine zElo (ts := Y.ts (.mk k t l)) rfl rfl ?_)
          refine w_nil ?_
          refine wtt_fork ?_
          refine w_nil ?_
          refine ⟨?_, ?_⟩
          · apply w_l; (focus exact rfl); (focus exact rfl); (refine zElo (ts := Y.ts (.mk k2 t2 l2)) rfl rfl ?_)
            refine w_nil ?_
            refine wtt_fin ?_
            apply w_l; (focus exact rfl); (focus exact rfl); (refine zS ?_)
            apply w_l; (focus exact rfl); (focus exact rfl); (refine zS ?_)
            refine w_nil ?_
            first | exact ⟨(_, _, true), x_wkd 6 ⟨rfl, rfl, trivial⟩ rfl (by repeat (first | exact ag_refl | refine ag_upd rfl ?_ | refine ag_at rfl rfl ?_))⟩ | exact ⟨(_, _, false), x_wkd 6 ⟨rfl, rfl, trivial⟩ rfl (by repeat (first | exact ag_refl | refine ag_upd rfl ?_ | refine ag_at rfl rfl ?_))⟩
          · apply w_l; (focus exact rfl); (focus exact rfl); (refine zS ?_)
            refine w_nil ?_
            refine wtt_fin ?_
            apply w_l; (focus exact rfl); (focus exact rfl); (refine zElo (ts := Y.ts (.mk k2 t2 l2)) rfl rfl ?_)
            apply w_l; (focus exact rfl); (focus exact rfl); (refine zS ?_)
            refine w_nil ?_
            first | exact ⟨(_, _, true), x_wkd 6 ⟨rfl, rfl, trivial⟩ rfl (by repeat (first | exact ag_refl | refine ag_upd rfl ?_ | refine ag_at rfl rfl ?_))⟩ | exact ⟨(_, _, false), x_wkd 6 ⟨rfl, rfl, trivial⟩ rfl (by repeat (first | exact ag_refl | refine ag_upd rfl ?_ | refine ag_at rfl rfl ?_))⟩
        · apply w_l; (focus exact rfl); (focus exact rfl); (refine zElo (ts := Y.ts (.mk k2 t2 l2)) rfl rfl ?_)
          refine w_nil ?_
          refine wtt_fin ?_
          apply w_l; (focus exact rfl); (focus exact rfl); (refine zElo (ts := Y.ts (.mk k t l)) rfl rfl ?_)
          apply w_l; (focus exact rfl); (focus exact rfl); (refine zS ?_)
          apply w_l; (focus exact rfl); (focus exact rfl); (refine zS ?_)
          refine w_nil ?_
          first | exact ⟨(_, _, true), x_wkd 6 ⟨rfl, rfl, trivial⟩ rfl (by repeat (first | exact ag_refl | refine ag_upd rfl ?_ | refine ag_at rfl rfl ?_))⟩ | exact ⟨(_, _, false), x_wkd 6 ⟨rfl, rfl, trivial⟩ rfl (by repeat (first | exact ag_refl | refine ag_upd rfl ?_ | refine ag_at rfl rfl ?_))⟩
  obtain ⟨b9, b10, o⟩ := a
  cases o
  · dsimp only [cond, List.cons_append, List.nil_append]
    repeat (first | refine gG ?_ | refine zN1 (fun hlen => ?_) | refine zN2 (fun hlen => ?_) | refine zAl (fun _ => ?_) | refine zBx (fun _ => ?_) | refine zAp (fun _ => ?_))
    refine zQl (n := r.length + 1) 1 (by omega) (fun vQ2 => ?_)
    have hpbd : parB ps k t = (decide (k = 5) && hasS ps t) := rfl
    cases d5 : decide (k = 5)
    · have hpb : parB ps k t = false := by rw [hpbd, d5]; rfl
      clear hc1
      cases d1 : decide (k = k2)
      · have hgf : g = false := bool_false h.good (good_off ps _ hpb (by unfold headB Y.kd; rw [d1]; rfl) r)
        clear h hix hpc hmy hmt hpbd
        repeat (first | refine gG ?_ | refine zN1 (fun hlen => ?_) | refine zN2 (fun hlen => ?_) | refine zAl (fun _ => ?_) | refine zBx (fun _ => ?_) | refine zAp (fun _ => ?_))
        first | refine zR ?_ | refine zQ ?_
        rw [hgf]; rfl

      cases d2 : decide (t = t2)
      · have hgf : g = false := bool_false h.good (good_off ps _ hpb (by unfold headB Y.kd Y.nm; rw [d1, d2]; rfl) r)
        clear h hix hpc hmy hmt hpbd
        repeat (first | refine gG ?_ | refine zN1 (fun hlen => ?_) | refine zN2 (fun hlen => ?_) | refine zAl (fun _ => ?_) | refine zBx (fun _ => ?_) | refine zAp (fun _ => ?_))
        first | refine zR ?_ | refine zQ ?_
        rw [hgf]; rfl

      cases d3 : decide (((l.length : Nat) : Int) = ((l2.length : Nat) : Int))
      · have hgf : g = false := bool_false h.good (good_off ps _ hpb (by unfold headB Y.kd Y.nm Y.as; rw [d1, d2]; exact d3) r)
        clear h hix hpc hmy hmt hpbd
        repeat (first | refine gG ?_ | refine zN1 (fun hlen => ?_) | refine zN2 (fun hlen => ?_) | refine zAl (fun _ => ?_) | refine zBx (fun _ => ?_) | refine zAp (fun _ => ?_))
        first | refine zR ?_ | refine zQ ?_
        rw [hgf]; rfl

      have hin := fit_in h hpb (by unfold headB Y.kd Y.nm Y.as; rw [d1, d2]; exact d3)
      have hle : l.length = l2.length := by have := of_decide_eq_true d3; omega
      have hμ : ((r ++ l.zip l2).map qm).sum < (((Y.mk k t l, Y.mk k2 t2 l2) :: r).map qm).sum := by
        have h1 := zip_mass l l2
        have h2 : (Y.mk k t l).mass = far k + (t.size + 1) + ((l.map Y.mass).sum + 1) := by rw [Y.mass, Y.masses_sum]
        rw [List.map_append, List.sum_append, List.map_cons, List.sum_cons]
        simp only [qm] at h1 ⊢
        omega
      clear h hix hpc hmy hmt hpbd
      repeat (first | refine gG ?_ | refine zN1 (fun hlen => ?_) | refine zN2 (fun hlen => ?_) | refine zAl (fun _ => ?_) | refine zBx (fun _ => ?_) | refine zAp (fun _ => ?_))
      refine x_loop [8, 12, 93, 94, 95, 96, 97, 98, 99, 100, 101, 102, 103, 104, 105, 106, 107, 108, 109, 110] (fun y : Nat × Value => [(93, .c (.lit (.int .i64 (y.1 : Nat)))), (8, .own 1 y.2)]) (fun y => [.box b7 199 [.own 2 vN, .own 3 vT], .row y.2 200 6 (r ++ (l.zip l2).take y.1).length (qall (r ++ (l.zip l2).take y.1)), .row vN 9 1 ns.length (ns.flatMap strTs), .row vT 64 3 ts.length (Y.all ts), .box b10 64 [.c (.lit (.int .i64 k2)), .c (.lit (.string t2)), .c (Y.row l2)], .box b9 64 [.c (.lit (.int .i64 k)), .c (.lit (.string t)), .c (Y.row l)]]) (fun y => y.1 ≤ l.length) (fun y => l.length - y.1) (0, vQ2) (Nat.zero_le _) ⟨rfl, rfl, trivial⟩ (by simp only [List.take_zero, List.append_nil]; rfl) ?_
      rintro ⟨j, u⟩ hj
      dsimp only at hj ⊢
      repeat (first | refine gG ?_ | refine zN1 (fun hlen => ?_) | refine zN2 (fun hlen => ?_) | refine zAl (fun _ => ?_) | refine zBx (fun _ => ?_) | refine zAp (fun _ => ?_))
      refine x_cond rfl (fun hcd => ?_) (fun hcd => ?_)
      · have hj' : j < l.length := by simpa using hcd
        have hj2 : j < l2.length := by omega
        obtain ⟨a1, ha1⟩ := nth hj'
        obtain ⟨a2, ha2⟩ := nth hj2
        have hat1 := Y.at ha1
        have hat2 := Y.at ha2
        have hz := zip_at ha1 ha2
        have hl1 : (r ++ (l.zip l2).take (j + 1)).length = (r ++ (l.zip l2).take j).length + 1 := by rw [List.take_add_one, hz]; simp; omega
        have hc3 : qall (r ++ (l.zip l2).take (j + 1)) = qall (r ++ (l.zip l2).take j) ++ Pq.ts (a1, a2) := by rw [List.take_add_one, hz, ← List.append_assoc, qall_app]; simp [qall]
        have hlb : (r ++ (l.zip l2).take j).length ≤ 1048576 := by rw [List.length_append, List.length_take]; omega
        clear hcd ha1 ha2 hz hin
        obtain ⟨k3, t3, l3⟩ := a1
        obtain ⟨k4, t4, l4⟩ := a2
        repeat (first | refine gG ?_ | refine zN1 (fun hlen => ?_) | refine zN2 (fun hlen => ?_) | refine zAl (fun _ => ?_) | refine zBx (fun _ => ?_) | refine zAp (fun _ => ?_))
        refine ac_draw [1, 1, 1, 1, 1, 1, 1, 1, 1, 1, 1, 1, 1, 2, 1] [0, 1, 2, 3, 4, 5, 6, 7, 8, 9, 10, 11, 12, 13, 14] (by kernel_rfl) (by kernel_rfl) ?_
        refine gW ?_
        apply w_q; (focus exact rfl); (focus exact rfl); focus (intro _; (refine zIx j hj' ?_); exact det_refl)
        apply w_q; (focus exact rfl); (focus exact rfl); focus (intro _; (refine zEl hat1 (Y.ts_len _) ?_); exact det_refl)
        refine gW ?_
        apply w_q; (focus exact rfl); (focus exact rfl); focus (intro _; (refine zIx j hj2 ?_); exact det_refl)
        apply w_q; (focus exact rfl); (focus exact rfl); focus (intro _; (refine zEl hat2 (Y.ts_len _) ?_); exact det_refl)
        apply w_q; (focus exact rfl); (focus exact rfl); focus (intro _; (refine zBda ?_); exact det_refl)
        refine gW ?_
        apply w_l; (focus exact rfl); (focus exact rfl); (refine zAp (fun _ => ?_))
        refine gW ?_
        refine w_nil ?_
        repeat (first | refine gG ?_ | refine zN1 (fun hlen => ?_) | refine zN2 (fun hlen => ?_) | refine zAl (fun _ => ?_) | refine zBx (fun _ => ?_) | refine zAp (fun _ => ?_))
        exact ⟨(j + 1, _), hj', by simp only; omega, x_wkd 6 ⟨rfl, rfl, trivial⟩ (by simp only [hl1, hc3]; rfl) (by repeat (first | exact ag_refl | refine ag_upd rfl ?_ | refine ag_at rfl rfl ?_))⟩
      · have hj' : j = l.length := by
          have : ¬ j < l.length := by simpa using hcd
          omega
        subst hj'
        clear hcd
        have htk : (l.zip l2).take l.length = l.zip l2 := List.take_of_length_le (by rw [List.length_zip]; omega)
        rw [htk]
        repeat (first | refine gG ?_ | refine zN1 (fun hlen => ?_) | refine zN2 (fun hlen => ?_) | refine zAl (fun _ => ?_) | refine zBx (fun _ => ?_) | refine zAp (fun _ => ?_))
        exact ⟨(r ++ l.zip l2, u, ns, ts, vN, vT), hin, hμ, x_wkd 4 ⟨rfl, trivial⟩ rfl (by repeat (first | exact ag_refl | refine ag_upd rfl ?_ | refine ag_at rfl rfl ?_))⟩

    cases hs : hasS ps t
    · have hpb : parB ps k t = false := by rw [hpbd, d5, hs]; rfl
      rw [hs] at hc1
      cases d1 : decide (k = k2)
      · have hgf : g = false := bool_false h.good (good_off ps _ hpb (by unfold headB Y.kd; rw [d1]; rfl) r)
        clear h hix hpc hmy hmt hpbd
        repeat (first | refine gG ?_ | refine zN1 (fun hlen => ?_) | refine zN2 (fun hlen => ?_) | refine zAl (fun _ => ?_) | refine zBx (fun _ => ?_) | refine zAp (fun _ => ?_))
        refine zCall (hc1) ?_
        rintro _ rfl
        clear hc1
        repeat (first | refine gG ?_ | refine zN1 (fun hlen => ?_) | refine zN2 (fun hlen => ?_) | refine zAl (fun _ => ?_) | refine zBx (fun _ => ?_) | refine zAp (fun _ => ?_))
        first | refine zR ?_ | refine zQ ?_
        rw [hgf]; rfl

      cases d2 : decide (t = t2)
      · have hgf : g = false := bool_false h.good (good_off ps _ hpb (by unfold headB Y.kd Y.nm; rw [d1, d2]; rfl) r)
        clear h hix hpc hmy hmt hpbd
        repeat (first | refine gG ?_ | refine zN1 (fun hlen => ?_) | refine zN2 (fun hlen => ?_) | refine zAl (fun _ => ?_) | refine zBx (fun _ => ?_) | refine zAp (fun _ => ?_))
        refine zCall (hc1) ?_
        rintro _ rfl
        clear hc1
        repeat (first | refine gG ?_ | refine zN1 (fun hlen => ?_) | refine zN2 (fun hlen => ?_) | refine zAl (fun _ => ?_) | refine zBx (fun _ => ?_) | refine zAp (fun _ => ?_))
        first | refine zR ?_ | refine zQ ?_
        rw [hgf]; rfl

      cases d3 : decide (((l.length : Nat) : Int) = ((l2.length : Nat) : Int))
      · have hgf : g = false := bool_false h.good (good_off ps _ hpb (by unfold headB Y.kd Y.nm Y.as; rw [d1, d2]; exact d3) r)
        clear h hix hpc hmy hmt hpbd
        repeat (first | refine gG ?_ | refine zN1 (fun hlen => ?_) | refine zN2 (fun hlen => ?_) | refine zAl (fun _ => ?_) | refine zBx (fun _ => ?_) | refine zAp (fun _ => ?_))
        refine zCall (hc1) ?_
        rintro _ rfl
        clear hc1
        repeat (first | refine gG ?_ | refine zN1 (fun hlen => ?_) | refine zN2 (fun hlen => ?_) | refine zAl (fun _ => ?_) | refine zBx (fun _ => ?_) | refine zAp (fun _ => ?_))
        first | refine zR ?_ | refine zQ ?_
        rw [hgf]; rfl

      have hin := fit_in h hpb (by unfold headB Y.kd Y.nm Y.as; rw [d1, d2]; exact d3)
      have hle : l.length = l2.length := by have := of_decide_eq_true d3; omega
      have hμ : ((r ++ l.zip l2).map qm).sum < (((Y.mk k t l, Y.mk k2 t2 l2) :: r).map qm).sum := by
        have h1 := zip_mass l l2
        have h2 : (Y.mk k t l).mass = far k + (t.size + 1) + ((l.map Y.mass).sum + 1) := by rw [Y.mass, Y.masses_sum]
        rw [List.map_append, List.sum_append, List.map_cons, List.sum_cons]
        simp only [qm] at h1 ⊢
        omega
      clear h hix hpc hmy hmt hpbd
      repeat (first | refine gG ?_ | refine zN1 (fun hlen => ?_) | refine zN2 (fun hlen => ?_) | refine zAl (fun _ => ?_) | refine zBx (fun _ => ?_) | refine zAp (fun _ => ?_))
      refine zCall (hc1) ?_
      rintro _ rfl
      clear hc1
      repeat (first | refine gG ?_ | refine zN1 (fun hlen => ?_) | refine zN2 (fun hlen => ?_) | refine zAl (fun _ => ?_) | refine zBx (fun _ => ?_) | refine zAp (fun _ => ?_))
      refine x_loop [8, 12, 93, 94, 95, 96, 97, 98, 99, 100, 101, 102, 103, 104, 105, 106, 107, 108, 109, 110] (fun y : Nat × Value => [(93, .c (.lit (.int .i64 (y.1 : Nat)))), (8, .own 1 y.2)]) (fun y => [.box b7 199 [.own 2 vN, .own 3 vT], .row y.2 200 6 (r ++ (l.zip l2).take y.1).length (qall (r ++ (l.zip l2).take y.1)), .row vN 9 1 ns.length (ns.flatMap strTs), .row vT 64 3 ts.length (Y.all ts), .box b10 64 [.c (.lit (.int .i64 k2)), .c (.lit (.string t2)), .c (Y.row l2)], .box b9 64 [.c (.lit (.int .i64 k)), .c (.lit (.string t)), .c (Y.row l)]]) (fun y => y.1 ≤ l.length) (fun y => l.length - y.1) (0, vQ2) (Nat.zero_le _) ⟨rfl, rfl, trivial⟩ (by simp only [List.take_zero, List.append_nil]; rfl) ?_
      rintro ⟨j, u⟩ hj
      dsimp only at hj ⊢
      repeat (first | refine gG ?_ | refine zN1 (fun hlen => ?_) | refine zN2 (fun hlen => ?_) | refine zAl (fun _ => ?_) | refine zBx (fun _ => ?_) | refine zAp (fun _ => ?_))
      refine x_cond rfl (fun hcd => ?_) (fun hcd => ?_)
      · have hj' : j < l.length := by simpa using hcd
        have hj2 : j < l2.length := by omega
        obtain ⟨a1, ha1⟩ := nth hj'
        obtain ⟨a2, ha2⟩ := nth hj2
        have hat1 := Y.at ha1
        have hat2 := Y.at ha2
        have hz := zip_at ha1 ha2
        have hl1 : (r ++ (l.zip l2).take (j + 1)).length = (r ++ (l.zip l2).take j).length + 1 := by rw [List.take_add_one, hz]; simp; omega
        have hc3 : qall (r ++ (l.zip l2).take (j + 1)) = qall (r ++ (l.zip l2).take j) ++ Pq.ts (a1, a2) := by rw [List.take_add_one, hz, ← List.append_assoc, qall_app]; simp [qall]
        have hlb : (r ++ (l.zip l2).take j).length ≤ 1048576 := by rw [List.length_append, List.length_take]; omega
        clear hcd ha1 ha2 hz hin
        obtain ⟨k3, t3, l3⟩ := a1
        obtain ⟨k4, t4, l4⟩ := a2
        repeat (first | refine gG ?_ | refine zN1 (fun hlen => ?_) | refine zN2 (fun hlen => ?_) | refine zAl (fun _ => ?_) | refine zBx (fun _ => ?_) | refine zAp (fun _ => ?_))
        refine ac_draw [1, 1, 1, 1, 1, 1, 1, 1, 1, 1, 1, 1, 1, 2, 1] [0, 1, 2, 3, 4, 5, 6, 7, 8, 9, 10, 11, 12, 13, 14] (by kernel_rfl) (by kernel_rfl) ?_
        refine gW ?_
        apply w_q; (focus exact rfl); (focus exact rfl); focus (intro _; (refine zIx j hj' ?_); exact det_refl)
        apply w_q; (focus exact rfl); (focus exact rfl); focus (intro _; (refine zEl hat1 (Y.ts_len _) ?_); exact det_refl)
        refine gW ?_
        apply w_q; (focus exact rfl); (focus exact rfl); focus (intro _; (refine zIx j hj2 ?_); exact det_refl)
        apply w_q; (focus exact rfl); (focus exact rfl); focus (intro _; (refine zEl hat2 (Y.ts_len _) ?_); exact det_refl)
        apply w_q; (focus exact rfl); (focus exact rfl); focus (intro _; (refine zBda ?_); exact det_refl)
        refine gW ?_
        apply w_l; (focus exact rfl); (focus exact rfl); (refine zAp (fun _ => ?_))
        refine gW ?_
        refine w_nil ?_
        repeat (first | refine gG ?_ | refine zN1 (fun hlen => ?_) | refine zN2 (fun hlen => ?_) | refine zAl (fun _ => ?_) | refine zBx (fun _ => ?_) | refine zAp (fun _ => ?_))
        exact ⟨(j + 1, _), hj', by simp only; omega, x_wkd 6 ⟨rfl, rfl, trivial⟩ (by simp only [hl1, hc3]; rfl) (by repeat (first | exact ag_refl | refine ag_upd rfl ?_ | refine ag_at rfl rfl ?_))⟩
      · have hj' : j = l.length := by
          have : ¬ j < l.length := by simpa using hcd
          omega
        subst hj'
        clear hcd
        have htk : (l.zip l2).take l.length = l.zip l2 := List.take_of_length_le (by rw [List.length_zip]; omega)
        rw [htk]
        repeat (first | refine gG ?_ | refine zN1 (fun hlen => ?_) | refine zN2 (fun hlen => ?_) | refine zAl (fun _ => ?_) | refine zBx (fun _ => ?_) | refine zAp (fun _ => ?_))
        exact ⟨(r ++ l.zip l2, u, ns, ts, vN, vT), hin, hμ, x_wkd 4 ⟨rfl, trivial⟩ rfl (by repeat (first | exact ag_refl | refine ag_upd rfl ?_ | refine ag_at rfl rfl ?_))⟩

    have hpb : parB ps k t = true := by rw [hpbd, d5, hs]; rfl
    rw [hs] at hc1
    clear hpbd
    repeat (first | refine gG ?_ | refine zN1 (fun hlen => ?_) | refine zN2 (fun hlen => ?_) | refine zAl (fun _ => ?_) | refine zBx (fun _ => ?_) | refine zAp (fun _ => ?_))
    refine zCall (hc1) ?_
    rintro _ rfl
    clear hc1
    repeat (first | refine gG ?_ | refine zN1 (fun hlen => ?_) | refine zN2 (fun hlen => ?_) | refine zAl (fun _ => ?_) | refine zBx (fun _ => ?_) | refine zAp (fun _ => ?_))
    refine zPeek hix ?_
    rintro _ rfl
    refine ⟨rfl, ?_⟩
    clear hix
    rcases hpc with ⟨hp1, hp2⟩ | ⟨j, hp1, hp2⟩
    · rw [hp1]
      have hin := fit_bind h hpb hp2
      clear h hp1 hp2 hmy hmt
      repeat (first | refine gG ?_ | refine zN1 (fun hlen => ?_) | refine zN2 (fun hlen => ?_) | refine zAl (fun _ => ?_) | refine zBx (fun _ => ?_) | refine zAp (fun _ => ?_))
      refine x_join [47, 48, 49, 50, 51, 52, 53, 54, 55, 56, 57, 58, 59] (fun _ : Value × Value => []) (fun w => [.box b7 199 [.own 2 w.1, .own 3 w.2], .row vQ2 200 6 r.length (qall r), .row w.1 9 1 (ns.length + 1) (ns.flatMap strTs ++ [.lit (.string t)]), .row w.2 64 3 (ts.length + 1) (Y.all ts ++ [.lit (.int .i64 k2), .lit (.string t2), Y.row l2]), .box b10 64 [.c (.lit (.int .i64 k2)), .c (.lit (.string t2)), .c (Y.row l2)], .box b9 64 [.c (.lit (.int .i64 k)), .c (.lit (.string t)), .c (Y.row l)]]) (fun w => ?_) ?_
      rotate_left
      · skip
        refine ac_drawT3 [0, 2, 0, 2, 0, 2, 0, 2, 2, 0, 2, 0, 2, 0, 2] (.fork4 [0, 2, 6] 1 (.fork3 [] 3 (.fork3 [4] 5 (.fork [] 7 (.fin [11, 8, 9, 10, 12, 13, 14]) 8 (.fin [9, 7, 11, 10, 12, 13, 14])) 7 (.fork [] 5 (.fin [11, 8, 9, 10, 12, 13, 14]) 8 (.fin [9, 5, 11, 10, 12, 13, 14])) 8 (.fork [9] 5 (.fin [7, 11, 10, 12, 13, 14]) 7 (.fin [5, 11, 10, 12, 13, 14]))) 7 (.fork [] 3 (.fork [4] 5 (.fin [11, 8, 9, 10, 12, 13, 14]) 8 (.fin [9, 5, 11, 10, 12, 13, 14])) 8 (.fin [9, 3, 4, 5, 11, 10, 12, 13, 14])) 8 (.fork [9] 3 (.fork [4] 5 (.fin [7, 11, 10, 12, 13, 14]) 7 (.fin [5, 11, 10, 12, 13, 14])) 7 (.fin [3, 4, 5, 11, 10, 12, 13, 14]))) 3 (.fork3 [4] 1 (.fork3 [] 5 (.fork [] 7 (.fin [11, 8, 9, 10, 12, 13, 14]) 8 (.fin [9, 7, 11, 10, 12, 13, 14])) 7 (.fork [] 5 (.fin [11, 8, 9, 10, 12, 13, 14]) 8 (.fin [9, 5, 11, 10, 12, 13, 14])) 8 (.fork [9] 5 (.fin [7, 11, 10, 12, 13, 14]) 7 (.fin [5, 11, 10, 12, 13, 14]))) 7 (.fork [] 1 (.fork [] 5 (.fin [11, 8, 9, 10, 12, 13, 14]) 8 (.fin [9, 5, 11, 10, 12, 13, 14])) 8 (.fin [9, 1, 5, 11, 10, 12, 13, 14])) 8 (.fork [9] 1 (.fork [] 5 (.fin [7, 11, 10, 12, 13, 14]) 7 (.fin [5, 11, 10, 12, 13, 14])) 7 (.fin [1, 5, 11, 10, 12, 13, 14]))) 7 (.fork3 [] 1 (.fork [] 3 (.fork [4] 5 (.fin [11, 8, 9, 10, 12, 13, 14]) 8 (.fin [9, 5, 11, 10, 12, 13, 14])) 8 (.fin [9, 3, 4, 5, 11, 10, 12, 13, 14])) 3 (.fork [4] 1 (.fork [] 5 (.fin [11, 8, 9, 10, 12, 13, 14]) 8 (.fin [9, 5, 11, 10, 12, 13, 14])) 8 (.fin [9, 1, 5, 11, 10, 12, 13, 14])) 8 (.fork [9] 1 (.fin [3, 4, 5, 11, 10, 12, 13, 14]) 3 (.fin [4, 1, 5, 11, 10, 12, 13, 14]))) 8 (.fork3 [9] 1 (.fork [] 3 (.fork [4] 5 (.fin [7, 11, 10, 12, 13, 14]) 7 (.fin [5, 11, 10, 12, 13, 14])) 7 (.fin [3, 4, 5, 11, 10, 12, 13, 14])) 3 (.fork [4] 1 (.fork [] 5 (.fin [7, 11, 10, 12, 13, 14]) 7 (.fin [5, 11, 10, 12, 13, 14])) 7 (.fin [1, 5, 11, 10, 12, 13, 14])) 7 (.fork [] 1 (.fin [3, 4, 5, 11, 10, 12, 13, 14]) 3 (.fin [4, 1, 5, 11, 10, 12, 13, 14])))) (by kernel_rfl) (by kernel_rfl) ?_
        refine wtt_fork4 ?_
        refine gW ?_
        refine w_nil ?_
        refine ⟨?_, ?_, ?_, ?_⟩
        · apply w_l; (focus exact rfl); (focus exact rfl); (first | refine zL1 ?_ | refine zL2 ?_ | refine zL3 ?_ | refine zLp ?_)
          refine w_nil ?_
          refine wtt_fork3 ?_
          refine w_nil ?_
          refine ⟨?_, ?_, ?_⟩
          · apply w_l; (focus exact rfl); (focus exact rfl); (first | refine zL1 ?_ | refine zL2 ?_ | refine zL3 ?_ | refine zLp ?_)
            refine w_nil ?_
            refine wtt_fork3 ?_
            refine gW ?_
            refine w_nil ?_
            refine ⟨?_, ?_, ?_⟩
            · apply w_l; (focus exact rfl); (focus exact rfl); (refine zAp (fun _ => ?_))
              refine w_nil ?_
              refine wtt_fork ?_
              refine w_nil ?_
              refine ⟨?_, ?_⟩
              · apply w_l; (focus exact rfl); (focus exact rfl); (first | refine zL1 ?_ | refine zL2 ?_ | refine zL3 ?_ | refine zLp ?_)
                refine w_nil ?_
                refine wtt_fin ?_
                refine gW ?_
                apply w_l; (focus exact rfl); (focus exact rfl); (first | refine zL1 ?_ | refine zL2 ?_ | refine zL3 ?_ | refine zLp ?_)
                refine gW ?_
                apply w_l; (focus exact rfl); (focus exact rfl); (refine zAp (fun _ => ?_))
                apply w_l; (focus exact rfl); (focus exact rfl); (refine zS ?_)
                refine gW ?_
                apply w_l; (focus exact rfl); (focus exact rfl); (refine zS ?_)
                refine w_nil ?_
                exact ⟨(_, _), x_wkd 6 trivial rfl (by repeat (first | exact ag_refl | refine ag_upd rfl ?_ | refine ag_at rfl rfl ?_))⟩
              · apply w_l; (focus exact rfl); (focus exact rfl); (first | refine zL1 ?_ | refine zL2 ?_ | refine zL3 ?_ | refine zLp ?_)
                refine w_nil ?_
                refine wtt_fin ?_
                refine gW ?_
                apply w_l; (focus exact rfl); (focus exact rfl); (first | refine zL1 ?_ | refine zL2 ?_ | refine zL3 ?_ | refine zLp ?_)
                refine gW ?_
                apply w_l; (focus exact rfl); (focus exact rfl); (refine zAp (fun _ => ?_))
                apply w_l; (focus exact rfl); (focus exact rfl); (refine zS ?_)
                refine gW ?_
                apply w_l; (focus exact rfl); (focus exact rfl); (refine zS ?_)
                refine w_nil ?_
                exact ⟨(_, _), x_wkd 6 trivial rfl (by repeat (first | exact ag_refl | refine ag_upd rfl ?_ | refine ag_at rfl rfl ?_))⟩
            · apply w_l; (focus exact rfl); (focus exact rfl); (first | refine zL1 ?_ | refine zL2 ?_ | refine zL3 ?_ | refine zLp ?_)
              refine w_nil ?_
              refine wtt_fork ?_
              refine w_nil ?_
              refine ⟨?_, ?_⟩
              · apply w_l; (focus exact rfl); (focus exact rfl); (refine zAp (fun _ => ?_))
                refine w_nil ?_
                refine wtt_fin ?_
                refine gW ?_
                apply w_l; (focus exact rfl); (focus exact rfl); (first | refine zL1 ?_ | refine zL2 ?_ | refine zL3 ?_ | refine zLp ?_)
                refine gW ?_
                apply w_l; (focus exact rfl); (focus exact rfl); (refine zAp (fun _ => ?_))
                apply w_l; (focus exact rfl); (focus exact rfl); (refine zS ?_)
                refine gW ?_
                apply w_l; (focus exact rfl); (focus exact rfl); (refine zS ?_)
                refine w_nil ?_
                exact ⟨(_, _), x_wkd 6 trivial rfl (by repeat (first | exact ag_refl | refine ag_upd rfl ?_ | refine ag_at rfl rfl ?_))⟩
              · apply w_l; (focus exact rfl); (focus exact rfl); (first | refine zL1 ?_ | refine zL2 ?_ | refine zL3 ?_ | refine zLp ?_)
                refine w_nil ?_
                refine wtt_fin ?_
                refine gW ?_
                apply w_l; (focus exact rfl); (focus exact rfl); (refine zAp (fun _ => ?_))
                refine gW ?_
                apply w_l; (focus exact rfl); (focus exact rfl); (refine zAp (fun _ => ?_))
                apply w_l; (focus exact rfl); (focus exact rfl); (refine zS ?_)
                refine gW ?_
                apply w_l; (focus exact rfl); (focus exact rfl); (refine zS ?_)
                refine w_nil ?_
                exact ⟨(_, _), x_wkd 6 trivial rfl (by repeat (first | exact ag_refl | refine ag_upd rfl ?_ | refine ag_at rfl rfl ?_))⟩
            · apply w_l; (focus exact rfl); (focus exact rfl); (first | refine zL1 ?_ | refine zL2 ?_ | refine zL3 ?_ | refine zLp ?_)
              refine w_nil ?_
              refine wtt_fork ?_
              refine gW ?_
              refine w_nil ?_
              refine ⟨?_, ?_⟩
              · apply w_l; (focus exact rfl); (focus exact rfl); (refine zAp (fun _ => ?_))
                refine w_nil ?_
                refine wtt_fin ?_
                apply w_l; (focus exact rfl); (focus exact rfl); (first | refine zL1 ?_ | refine zL2 ?_ | refine zL3 ?_ | refine zLp ?_)
                refine gW ?_
                apply w_l; (focus exact rfl); (focus exact rfl); (refine zAp (fun _ => ?_))
                apply w_l; (focus exact rfl); (focus exact rfl); (refine zS ?_)
                refine gW ?_
                apply w_l; (focus exact rfl); (focus exact rfl); (refine zS ?_)
                refine w_nil ?_
                exact ⟨(_, _), x_wkd 6 trivial rfl (by repeat (first | exact ag_refl | refine ag_upd rfl ?_ | refine ag_at rfl rfl ?_))⟩
              · apply w_l; (focus exact rfl); (focus exact rfl); (first | refine zL1 ?_ | refine zL2 ?_ | refine zL3 ?_ | refine zLp ?_)
                refine w_nil ?_
                refine wtt_fin ?_
                apply w_l; (focus exact rfl); (focus exact rfl); (refine zAp (fun _ => ?_))
                refine gW ?_
                apply w_l; (focus exact rfl); (focus exact rfl); (refine zAp (fun _ => ?_))
                apply w_l; (focus exact rfl); (focus exact rfl); (refine zS ?_)
                refine gW ?_
                apply w_l; (focus exact rfl); (focus exact rfl); (refine zS ?_)
                refine w_nil ?_
                exact ⟨(_, _), x_wkd 6 trivial rfl (by repeat (first | exact ag_refl | refine ag_upd rfl ?_ | refine ag_at rfl rfl ?_))⟩
          · apply w_l; (focus exact rfl); (focus exact rfl); (first | refine zL1 ?_ | refine zL2 ?_ | refine zL3 ?_ | refine zLp ?_)
            refine w_nil ?_
            refine wtt_fork ?_
            refine w_nil ?_
            refine ⟨?_, ?_⟩
            · apply w_l; (focus exact rfl); (focus exact rfl); (first | refine zL1 ?_ | refine zL2 ?_ | refine zL3 ?_ | refine zLp ?_)
              refine w_nil ?_
              refine wtt_fork ?_
              refine gW ?_
              refine w_nil ?_
              refine ⟨?_, ?_⟩
              · apply w_l; (focus exact rfl); (focus exact rfl); (refine zAp (fun _ => ?_))
                refine w_nil ?_
                refine wtt_fin ?_
                refine gW ?_
                apply w_l; (focus exact rfl); (focus exact rfl); (first | refine zL1 ?_ | refine zL2 ?_ | refine zL3 ?_ | refine zLp ?_)
                refine gW ?_
                apply w_l; (focus exact rfl); (focus exact rfl); (refine zAp (fun _ => ?_))
                apply w_l; (focus exact rfl); (focus exact rfl); (refine zS ?_)
                refine gW ?_
                apply w_l; (focus exact rfl); (focus exact rfl); (refine zS ?_)
                refine w_nil ?_
                exact ⟨(_, _), x_wkd 6 trivial rfl (by repeat (first | exact ag_refl | refine ag_upd rfl ?_ | refine ag_at rfl rfl ?_))⟩
              · apply w_l; (focus exact rfl); (focus exact rfl); (first | refine zL1 ?_ | refine zL2 ?_ | refine zL3 ?_ | refine zLp ?_)
                refine w_nil ?_
                refine wtt_fin ?_
                refine gW ?_
                apply w_l; (focus exact rfl); (focus exact rfl); (refine zAp (fun _ => ?_))
                refine gW ?_
                apply w_l; (focus exact rfl); (focus exact rfl); (refine zAp (fun _ => ?_))
                apply w_l; (focus exact rfl); (focus exact rfl); (refine zS ?_)
                refine gW ?_
                apply w_l; (focus exact rfl); (focus exact rfl); (refine zS ?_)
                refine w_nil ?_
                exact ⟨(_, _), x_wkd 6 trivial rfl (by repeat (first | exact ag_refl | refine ag_upd rfl ?_ | refine ag_at rfl rfl ?_))⟩
            · apply w_l; (focus exact rfl); (focus exact rfl); (first | refine zL1 ?_ | refine zL2 ?_ | refine zL3 ?_ | refine zLp ?_)
              refine w_nil ?_
              refine wtt_fin ?_
              refine gW ?_
              apply w_l; (focus exact rfl); (focus exact rfl); (first | refine zL1 ?_ | refine zL2 ?_ | refine zL3 ?_ | refine zLp ?_)
              refine gW ?_
              apply w_l; (focus exact rfl); (focus exact rfl); (refine zAp (fun _ => ?_))
              refine gW ?_
              apply w_l; (focus exact rfl); (focus exact rfl); (refine zAp (fun _ => ?_))
              apply w_l; (focus exact rfl); (focus exact rfl); (refine zS ?_)
              refine gW ?_
              apply w_l; (focus exact rfl); (focus exact rfl); (refine zS ?_)
              refine w_nil ?_
              exact ⟨(_, _), x_wkd 6 trivial rfl (by repeat (first | exact ag_refl | refine ag_upd rfl ?_ | refine ag_at rfl rfl ?_))⟩
          · apply w_l; (focus exact rfl); (focus exact rfl); (first | refine zL1 ?_ | refine zL2 ?_ | refine zL3 ?_ | refine zLp ?_)
            refine w_nil ?_
            refine wtt_fork ?_
            refine gW ?_
            refine w_nil ?_
            refine ⟨?_, ?_⟩
            · apply w_l; (focus exact rfl); (focus exact rfl); (first | refine zL1 ?_ | refine zL2 ?_ | refine zL3 ?_ | refine zLp ?_)
              refine w_nil ?_
              refine wtt_fork ?_
              refine gW ?_
              refine w_nil ?_
              refine ⟨?_, ?_⟩
              · apply w_l; (focus exact rfl); (focus exact rfl); (refine zAp (fun _ => ?_))
                refine w_nil ?_
                refine wtt_fin ?_
                apply w_l; (focus exact rfl); (focus exact rfl); (first | refine zL1 ?_ | refine zL2 ?_ | refine zL3 ?_ | refine zLp ?_)
                refine gW ?_
                apply w_l; (focus exact rfl); (focus exact rfl); (refine zAp (fun _ => ?_))
                apply w_l; (focus exact rfl); (focus exact rfl); (refine zS ?_)
                refine gW ?_
                apply w_l; (focus exact rfl); (focus exact rfl); (refine zS ?_)
                refine w_nil ?_
                exact ⟨(_, _), x_wkd 6 trivial rfl (by repeat (first | exact ag_refl | refine ag_upd rfl ?_ | refine ag_at rfl rfl ?_))⟩
              · apply w_l; (focus exact rfl); (focus exact rfl); (first | refine zL1 ?_ | refine zL2 ?_ | refine zL3 ?_ | refine zLp ?_)
                refine w_nil ?_
                refine wtt_fin ?_
                apply w_l; (focus exact rfl); (focus exact rfl); (refine zAp (fun _ => ?_))
                refine gW ?_
                apply w_l; (focus exact rfl); (focus exact rfl); (refine zAp (fun _ => ?_))
                apply w_l; (focus exact rfl); (focus exact rfl); (refine zS ?_)
                refine gW ?_
                apply w_l; (focus exact rfl); (focus exact rfl); (refine zS ?_)
                refine w_nil ?_
                exact ⟨(_, _), x_wkd 6 trivial rfl (by repeat (first | exact ag_refl | refine ag_upd rfl ?_ | refine ag_at rfl rfl ?_))⟩
            · apply w_l; (focus exact rfl); (focus exact rfl); (first | refine zL1 ?_ | refine zL2 ?_ | refine zL3 ?_ | refine zLp ?_)
              refine w_nil ?_
              refine wtt_fin ?_
              apply w_l; (focus exact rfl); (focus exact rfl); (first | refine zL1 ?_ | refine zL2 ?_ | refine zL3 ?_ | refine zLp ?_)
              refine gW ?_
              apply w_l; (focus exact rfl); (focus exact rfl); (refine zAp (fun _ => ?_))
              refine gW ?_
              apply w_l; (focus exact rfl); (focus exact rfl); (refine zAp (fun _ => ?_))
              apply w_l; (focus exact rfl); (focus exact rfl); (refine zS ?_)
              refine gW ?_
              apply w_l; (focus exact rfl); (focus exact rfl); (refine zS ?_)
              refine w_nil ?_
              exact ⟨(_, _), x_wkd 6 trivial rfl (by repeat (first | exact ag_refl | refine ag_upd rfl ?_ | refine ag_at rfl rfl ?_))⟩
        · apply w_l; (focus exact rfl); (focus exact rfl); (first | refine zL1 ?_ | refine zL2 ?_ | refine zL3 ?_ | refine zLp ?_)
          refine w_nil ?_
          refine wtt_fork3 ?_
          refine gW ?_
          refine w_nil ?_
          refine ⟨?_, ?_, ?_⟩
          · apply w_l; (focus exact rfl); (focus exact rfl); (first | refine zL1 ?_ | refine zL2 ?_ | refine zL3 ?_ | refine zLp ?_)
            refine w_nil ?_
            refine wtt_fork3 ?_
            refine w_nil ?_
            refine ⟨?_, ?_, ?_⟩
            · apply w_l; (focus exact rfl); (focus exact rfl); (refine zAp (fun _ => ?_))
              refine w_nil ?_
              refine wtt_fork ?_
              refine w_nil ?_
              refine ⟨?_, ?_⟩
              · apply w_l; (focus exact rfl); (focus exact rfl); (first | refine zL1 ?_ | refine zL2 ?_ | refine zL3 ?_ | refine zLp ?_)
                refine w_nil ?_
                refine wtt_fin ?_
                refine gW ?_
                apply w_l; (focus exact rfl); (focus exact rfl); (first | refine zL1 ?_ | refine zL2 ?_ | refine zL3 ?_ | refine zLp ?_)
                refine gW ?_
                apply w_l; (focus exact rfl); (focus exact rfl); (refine zAp (fun _ => ?_))
                apply w_l; (focus exact rfl); (focus exact rfl); (refine zS ?_)
                refine gW ?_
                apply w_l; (focus exact rfl); (focus exact rfl); (refine zS ?_)
                refine w_nil ?_
                exact ⟨(_, _), x_wkd 6 trivial rfl (by repeat (first | exact ag_refl | refine ag_upd rfl ?_ | refine ag_at rfl rfl ?_))⟩
              · apply w_l; (focus exact rfl); (focus exact rfl); (first | refine zL1 ?_ | refine zL2 ?_ | refine zL3 ?_ | refine zLp ?_)
                refine w_nil ?_
                refine wtt_fin ?_
                refine gW ?_
                apply w_l; (focus exact rfl); (focus exact rfl); (first | refine zL1 ?_ | refine zL2 ?_ | refine zL3 ?_ | refine zLp ?_)
                refine gW ?_
                apply w_l; (focus exact rfl); (focus exact rfl); (refine zAp (fun _ => ?_))
                apply w_l; (focus exact rfl); (focus exact rfl); (refine zS ?_)
                refine gW ?_
                apply w_l; (focus exact rfl); (focus exact rfl); (refine zS ?_)
                refine w_nil ?_
                exact ⟨(_, _), x_wkd 6 trivial rfl (by repeat (first | exact ag_refl | refine ag_upd rfl ?_ | refine ag_at rfl rfl ?_))⟩
            · apply w_l; (focus exact rfl); (focus exact rfl); (first | refine zL1 ?_ | refine zL2 ?_ | refine zL3 ?_ | refine zLp ?_)
              refine w_nil ?_
              refine wtt_fork ?_
              refine w_nil ?_
              refine ⟨?_, ?_⟩
              · apply w_l; (focus exact rfl); (focus exact rfl); (refine zAp (fun _ => ?_))
                refine w_nil ?_
                refine wtt_fin ?_
                refine gW ?_
                apply w_l; (focus exact rfl); (focus exact rfl); (first | refine zL1 ?_ | refine zL2 ?_ | refine zL3 ?_ | refine zLp ?_)
                refine gW ?_
                apply w_l; (focus exact rfl); (focus exact rfl); (refine zAp (fun _ => ?_))
                apply w_l; (focus exact rfl); (focus exact rfl); (refine zS ?_)
                refine gW ?_
                apply w_l; (focus exact rfl); (focus exact rfl); (refine zS ?_)
                refine w_nil ?_
                exact ⟨(_, _), x_wkd 6 trivial rfl (by repeat (first | exact ag_refl | refine ag_upd rfl ?_ | refine ag_at rfl rfl ?_))⟩
              · apply w_l; (focus exact rfl); (focus exact rfl); (first | refine zL1 ?_ | refine zL2 ?_ | refine zL3 ?_ | refine zLp ?_)
                refine w_nil ?_
                refine wtt_fin ?_
                refine gW ?_
                apply w_l; (focus exact rfl); (focus exact rfl); (refine zAp (fun _ => ?_))
                refine gW ?_
                apply w_l; (focus exact rfl); (focus exact rfl); (refine zAp (fun _ => ?_))
                apply w_l; (focus exact rfl); (focus exact rfl); (refine zS ?_)
                refine gW ?_
                apply w_l; (focus exact rfl); (focus exact rfl); (refine zS ?_)
                refine w_nil ?_
                exact ⟨(_, _), x_wkd 6 trivial rfl (by repeat (first | exact ag_refl | refine ag_upd rfl ?_ | refine ag_at rfl rfl ?_))⟩
            · apply w_l; (focus exact rfl); (focus exact rfl); (first | refine zL1 ?_ | refine zL2 ?_ | refine zL3 ?_ | refine zLp ?_)
              refine w_nil ?_
              refine wtt_fork ?_
              refine gW ?_
              refine w_nil ?_
              refine ⟨?_, ?_⟩
              · apply w_l; (focus exact rfl); (focus exact rfl); (refine zAp (fun _ => ?_))
                refine w_nil ?_
                refine wtt_fin ?_
                apply w_l; (focus exact rfl); (focus exact rfl); (first | refine zL1 ?_ | refine zL2 ?_ | refine zL3 ?_ | refine zLp ?_)
                refine gW ?_
                apply w_l; (focus exact rfl); (focus exact rfl); (refine zAp (fun _ => ?_))
                apply w_l; (focus exact rfl); (focus exact rfl); (refine zS ?_)
                refine gW ?_
                apply w_l; (focus exact rfl); (focus exact rfl); (refine zS ?_)
                refine w_nil ?_
                exact ⟨(_, _), x_wkd 6 trivial rfl (by repeat (first | exact ag_refl | refine ag_upd rfl ?_ | refine ag_at rfl rfl ?_))⟩
              · apply w_l; (focus exact rfl); (focus exact rfl); (first | refine zL1 ?_ | refine zL2 ?_ | refine zL3 ?_ | refine zLp ?_)
                refine w_nil ?_
                refine wtt_fin ?_
                apply w_l; (focus exact rfl); (focus exact rfl); (refine zAp (fun _ => ?_))
                refine gW ?_
                apply w_l; (focus exact rfl); (focus exact rfl); (refine zAp (fun _ => ?_))
                apply w_l; (focus exact rfl); (focus exact rfl); (refine zS ?_)
                refine gW ?_
                apply w_l; (focus exact rfl); (focus exact rfl); (refine zS ?_)
                refine w_nil ?_
                exact ⟨(_, _), x_wkd 6 trivial rfl (by repeat (first | exact ag_refl | refine ag_upd rfl ?_ | refine ag_at rfl rfl ?_))⟩
          · apply w_l; (focus exact rfl); (focus exact rfl); (first | refine zL1 ?_ | refine zL2 ?_ | refine zL3 ?_ | refine zLp ?_)
            refine w_nil ?_
            refine wtt_fork ?_
            refine w_nil ?_
            refine ⟨?_, ?_⟩
            · apply w_l; (focus exact rfl); (focus exact rfl); (first | refine zL1 ?_ | refine zL2 ?_ | refine zL3 ?_ | refine zLp ?_)
              refine w_nil ?_
              refine wtt_fork ?_
              refine w_nil ?_
              refine ⟨?_, ?_⟩
              · apply w_l; (focus exact rfl); (focus exact rfl); (refine zAp (fun _ => ?_))
                refine w_nil ?_
                refine wtt_fin ?_
                refine gW ?_
                apply w_l; (focus exact rfl); (focus exact rfl); (first | refine zL1 ?_ | refine zL2 ?_ | refine zL3 ?_ | refine zLp ?_)
                refine gW ?_
                apply w_l; (focus exact rfl); (focus exact rfl); (refine zAp (fun _ => ?_))
                apply w_l; (focus exact rfl); (focus exact rfl); (refine zS ?_)
                refine gW ?_
                apply w_l; (focus exact rfl); (focus exact rfl); (refine zS ?_)
                refine w_nil ?_
                exact ⟨(_, _), x_wkd 6 trivial rfl (by repeat (first | exact ag_refl | refine ag_upd rfl ?_ | refine ag_at rfl rfl ?_))⟩
              · apply w_l; (focus exact rfl); (focus exact rfl); (first | refine zL1 ?_ | refine zL2 ?_ | refine zL3 ?_ | refine zLp ?_)
                refine w_nil ?_
                refine wtt_fin ?_
                refine gW ?_
                apply w_l; (focus exact rfl); (focus exact rfl); (refine zAp (fun _ => ?_))
                refine gW ?_
                apply w_l; (focus exact rfl); (focus exact rfl); (refine zAp (fun _ => ?_))
                apply w_l; (focus exact rfl); (focus exact rfl); (refine zS ?_)
                refine gW ?_
                apply w_l; (focus exact rfl); (focus exact rfl); (refine zS ?_)
                refine w_nil ?_
                exact ⟨(_, _), x_wkd 6 trivial rfl (by repeat (first | exact ag_refl | refine ag_upd rfl ?_ | refine ag_at rfl rfl ?_))⟩
            · apply w_l; (focus exact rfl); (focus exact rfl); (first | refine zL1 ?_ | refine zL2 ?_ | refine zL3 ?_ | refine zLp ?_)
              refine w_nil ?_
              refine wtt_fin ?_
              refine gW ?_
              apply w_l; (focus exact rfl); (focus exact rfl); (first | refine zL1 ?_ | refine zL2 ?_ | refine zL3 ?_ | refine zLp ?_)
              apply w_l; (focus exact rfl); (focus exact rfl); (refine zAp (fun _ => ?_))
              refine gW ?_
              apply w_l; (focus exact rfl); (focus exact rfl); (refine zAp (fun _ => ?_))
              apply w_l; (focus exact rfl); (focus exact rfl); (refine zS ?_)
              refine gW ?_
              apply w_l; (focus exact rfl); (focus exact rfl); (refine zS ?_)
              refine w_nil ?_
              exact ⟨(_, _), x_wkd 6 trivial rfl (by repeat (first | exact ag_refl | refine ag_upd rfl ?_ | refine ag_at rfl rfl ?_))⟩
          · apply w_l; (focus exact rfl); (focus exact rfl); (first | refine zL1 ?_ | refine zL2 ?_ | refine zL3 ?_ | refine zLp ?_)
            refine w_nil ?_
            refine wtt_fork ?_
            refine gW ?_
            refine w_nil ?_
            refine ⟨?_, ?_⟩
            · apply w_l; (focus exact rfl); (focus exact rfl); (first | refine zL1 ?_ | refine zL2 ?_ | refine zL3 ?_ | refine zLp ?_)
              refine w_nil ?_
              refine wtt_fork ?_
              refine w_nil ?_
              refine ⟨?_, ?_⟩
              · apply w_l; (focus exact rfl); (focus exact rfl); (refine zAp (fun _ => ?_))
                refine w_nil ?_
                refine wtt_fin ?_
                apply w_l; (focus exact rfl); (focus exact rfl); (first | refine zL1 ?_ | refine zL2 ?_ | refine zL3 ?_ | refine zLp ?_)
                refine gW ?_
                apply w_l; (focus exact rfl); (focus exact rfl); (refine zAp (fun _ => ?_))
                apply w_l; (focus exact rfl); (focus exact rfl); (refine zS ?_)
                refine gW ?_
                apply w_l; (focus exact rfl); (focus exact rfl); (refine zS ?_)
                refine w_nil ?_
                exact ⟨(_, _), x_wkd 6 trivial rfl (by repeat (first | exact ag_refl | refine ag_upd rfl ?_ | refine ag_at rfl rfl ?_))⟩
              · apply w_l; (focus exact rfl); (focus exact rfl); (first | refine zL1 ?_ | refine zL2 ?_ | refine zL3 ?_ | refine zLp ?_)
                refine w_nil ?_
                refine wtt_fin ?_
                apply w_l; (focus exact rfl); (focus exact rfl); (refine zAp (fun _ => ?_))
                refine gW ?_
                apply w_l; (focus exact rfl); (focus exact rfl); (refine zAp (fun _ => ?_))
                apply w_l; (focus exact rfl); (focus exact rfl); (refine zS ?_)
                refine gW ?_
                apply w_l; (focus exact rfl); (focus exact rfl); (refine zS ?_)
                refine w_nil ?_
                exact ⟨(_, _), x_wkd 6 trivial rfl (by repeat (first | exact ag_refl | refine ag_upd rfl ?_ | refine ag_at rfl rfl ?_))⟩
            · apply w_l; (focus exact rfl); (focus exact rfl); (first | refine zL1 ?_ | refine zL2 ?_ | refine zL3 ?_ | refine zLp ?_)
              refine w_nil ?_
              refine wtt_fin ?_
              apply w_l; (focus exact rfl); (focus exact rfl); (first | refine zL1 ?_ | refine zL2 ?_ | refine zL3 ?_ | refine zLp ?_)
              apply w_l; (focus exact rfl); (focus exact rfl); (refine zAp (fun _ => ?_))
              refine gW ?_
              apply w_l; (focus exact rfl); (focus exact rfl); (refine zAp (fun _ => ?_))
              apply w_l; (focus exact rfl); (focus exact rfl); (refine zS ?_)
              refine gW ?_
              apply w_l; (focus exact rfl); (focus exact rfl); (refine zS ?_)
              refine w_nil ?_
              exact ⟨(_, _), x_wkd 6 trivial rfl (by repeat (first | exact ag_refl | refine ag_upd rfl ?_ | refine ag_at rfl rfl ?_))⟩
        · apply w_l; (focus exact rfl); (focus exact rfl); (first | refine zL1 ?_ | refine zL2 ?_ | refine zL3 ?_ | refine zLp ?_)
          refine w_nil ?_
          refine wtt_fork3 ?_
          refine w_nil ?_
          refine ⟨?_, ?_, ?_⟩
          · apply w_l; (focus exact rfl); (focus exact rfl); (first | refine zL1 ?_ | refine zL2 ?_ | refine zL3 ?_ | refine zLp ?_)
            refine w_nil ?_
            refine wtt_fork ?_
            refine w_nil ?_
            refine ⟨?_, ?_⟩
            · apply w_l; (focus exact rfl); (focus exact rfl); (first | refine zL1 ?_ | refine zL2 ?_ | refine zL3 ?_ | refine zLp ?_)
              refine w_nil ?_
              refine wtt_fork ?_
              refine gW ?_
              refine w_nil ?_
              refine ⟨?_, ?_⟩
              · apply w_l; (focus exact rfl); (focus exact rfl); (refine zAp (fun _ => ?_))
                refine w_nil ?_
                refine wtt_fin ?_
                refine gW ?_
                apply w_l; (focus exact rfl); (focus exact rfl); (first | refine zL1 ?_ | refine zL2 ?_ | refine zL3 ?_ | refine zLp ?_)
                refine gW ?_
                apply w_l; (focus exact rfl); (focus exact rfl); (refine zAp (fun _ => ?_))
                apply w_l; (focus exact rfl); (focus exact rfl); (refine zS ?_)
                refine gW ?_
                apply w_l; (focus exact rfl); (focus exact rfl); (refine zS ?_)
                refine w_nil ?_
                exact ⟨(_, _), x_wkd 6 trivial rfl (by repeat (first | exact ag_refl | refine ag_upd rfl ?_ | refine ag_at rfl rfl ?_))⟩
              · apply w_l; (focus exact rfl); (focus exact rfl); (first | refine zL1 ?_ | refine zL2 ?_ | refine zL3 ?_ | refine zLp ?_)
                refine w_nil ?_
                refine wtt_fin ?_
                refine gW ?_
                apply w_l; (focus exact rfl); (focus exact rfl); (refine zAp (fun _ => ?_))
                refine gW ?_
                apply w_l; (focus exact rfl); (focus exact rfl); (refine zAp (fun _ => ?_))
                apply w_l; (focus exact rfl); (focus exact rfl); (refine zS ?_)
                refine gW ?_
                apply w_l; (focus exact rfl); (focus exact rfl); (refine zS ?_)
                refine w_nil ?_
                exact ⟨(_, _), x_wkd 6 trivial rfl (by repeat (first | exact ag_refl | refine ag_upd rfl ?_ | refine ag_at rfl rfl ?_))⟩
            · apply w_l; (focus exact rfl); (focus exact rfl); (first | refine zL1 ?_ | refine zL2 ?_ | refine zL3 ?_ | refine zLp ?_)
              refine w_nil ?_
              refine wtt_fin ?_
              refine gW ?_
              apply w_l; (focus exact rfl); (focus exact rfl); (first | refine zL1 ?_ | refine zL2 ?_ | refine zL3 ?_ | refine zLp ?_)
              refine gW ?_
              apply w_l; (focus exact rfl); (focus exact rfl); (refine zAp (fun _ => ?_))
              refine gW ?_
              apply w_l; (focus exact rfl); (focus exact rfl); (refine zAp (fun _ => ?_))
              apply w_l; (focus exact rfl); (focus exact rfl); (refine zS ?_)
              refine gW ?_
              apply w_l; (focus exact rfl); (focus exact rfl); (refine zS ?_)
              refine w_nil ?_
              exact ⟨(_, _), x_wkd 6 trivial rfl (by repeat (first | exact ag_refl | refine ag_upd rfl ?_ | refine ag_at rfl rfl ?_))⟩
          · apply w_l; (focus exact rfl); (focus exact rfl); (first | refine zL1 ?_ | refine zL2 ?_ | refine zL3 ?_ | refine zLp ?_)
            refine w_nil ?_
            refine wtt_fork ?_
            refine gW ?_
            refine w_nil ?_
            refine ⟨?_, ?_⟩
            · apply w_l; (focus exact rfl); (focus exact rfl); (first | refine zL1 ?_ | refine zL2 ?_ | refine zL3 ?_ | refine zLp ?_)
              refine w_nil ?_
              refine wtt_fork ?_
              refine w_nil ?_
              refine ⟨?_, ?_⟩
              · apply w_l; (focus exact rfl); (focus exact rfl); (refine zAp (fun _ => ?_))
                refine w_nil ?_
                refine wtt_fin ?_
                refine gW ?_
                apply w_l; (focus exact rfl); (focus exact rfl); (first | refine zL1 ?_ | refine zL2 ?_ | refine zL3 ?_ | refine zLp ?_)
                refine gW ?_
                apply w_l; (focus exact rfl); (focus exact rfl); (refine zAp (fun _ => ?_))
                apply w_l; (focus exact rfl); (focus exact rfl); (refine zS ?_)
                refine gW ?_
                apply w_l; (focus exact rfl); (focus exact rfl); (refine zS ?_)
                refine w_nil ?_
                exact ⟨(_, _), x_wkd 6 trivial rfl (by repeat (first | exact ag_refl | refine ag_upd rfl ?_ | refine ag_at rfl rfl ?_))⟩
              · apply w_l; (focus exact rfl); (focus exact rfl); (first | refine zL1 ?_ | refine zL2 ?_ | refine zL3 ?_ | refine zLp ?_)
                refine w_nil ?_
                refine wtt_fin ?_
                refine gW ?_
                apply w_l; (focus exact rfl); (focus exact rfl); (refine zAp (fun _ => ?_))
                refine gW ?_
                apply w_l; (focus exact rfl); (focus exact rfl); (refine zAp (fun _ => ?_))
                apply w_l; (focus exact rfl); (focus exact rfl); (refine zS ?_)
                refine gW ?_
                apply w_l; (focus exact rfl); (focus exact rfl); (refine zS ?_)
                refine w_nil ?_
                exact ⟨(_, _), x_wkd 6 trivial rfl (by repeat (first | exact ag_refl | refine ag_upd rfl ?_ | refine ag_at rfl rfl ?_))⟩
            · apply w_l; (focus exact rfl); (focus exact rfl); (first | refine zL1 ?_ | refine zL2 ?_ | refine zL3 ?_ | refine zLp ?_)
              refine w_nil ?_
              refine wtt_fin ?_
              refine gW ?_
              apply w_l; (focus exact rfl); (focus exact rfl); (first | refine zL1 ?_ | refine zL2 ?_ | refine zL3 ?_ | refine zLp ?_)
              apply w_l; (focus exact rfl); (focus exact rfl); (refine zAp (fun _ => ?_))
              refine gW ?_
              apply w_l; (focus exact rfl); (focus exact rfl); (refine zAp (fun _ => ?_))
              apply w_l; (focus exact rfl); (focus exact rfl); (refine zS ?_)
              refine gW ?_
              apply w_l; (focus exact rfl); (focus exact rfl); (refine zS ?_)
              refine w_nil ?_
              exact ⟨(_, _), x_wkd 6 trivial rfl (by repeat (first | exact ag_refl | refine ag_upd rfl ?_ | refine ag_at rfl rfl ?_))⟩
          · apply w_l; (focus exact rfl); (focus exact rfl); (first | refine zL1 ?_ | refine zL2 ?_ | refine zL3 ?_ | refine zLp ?_)
            refine w_nil ?_
            refine wtt_fork ?_
            refine gW ?_
            refine w_nil ?_
            refine ⟨?_, ?_⟩
            · apply w_l; (focus exact rfl); (focus exact rfl); (first | refine zL1 ?_ | refine zL2 ?_ | refine zL3 ?_ | refine zLp ?_)
              refine w_nil ?_
              refine wtt_fin ?_
              apply w_l; (focus exact rfl); (focus exact rfl); (first | refine zL1 ?_ | refine zL2 ?_ | refine zL3 ?_ | refine zLp ?_)
              refine gW ?_
              apply w_l; (focus exact rfl); (focus exact rfl); (refine zAp (fun _ => ?_))
              refine gW ?_
              apply w_l; (focus exact rfl); (focus exact rfl); (refine zAp (fun _ => ?_))
              apply w_l; (focus exact rfl); (focus exact rfl); (refine zS ?_)
              refine gW ?_
              apply w_l; (focus exact rfl); (focus exact rfl); (refine zS ?_)
              refine w_nil ?_
              exact ⟨(_, _), x_wkd 6 trivial rfl (by repeat (first | exact ag_refl | refine ag_upd rfl ?_ | refine ag_at rfl rfl ?_))⟩
            · apply w_l; (focus exact rfl); (focus exact rfl); (first | refine zL1 ?_ | refine zL2 ?_ | refine zL3 ?_ | refine zLp ?_)
              refine w_nil ?_
              refine wtt_fin ?_
              refine gW ?_
              apply w_l; (focus exact rfl); (focus exact rfl); (first | refine zL1 ?_ | refine zL2 ?_ | refine zL3 ?_ | refine zLp ?_)
              apply w_l; (focus exact rfl); (focus exact rfl); (refine zAp (fun _ => ?_))
              refine gW ?_
              apply w_l; (focus exact rfl); (focus exact rfl); (refine zAp (fun _ => ?_))
              apply w_l; (focus exact rfl); (focus exact rfl); (refine zS ?_)
              refine gW ?_
              apply w_l; (focus exact rfl); (focus exact rfl); (refine zS ?_)
              refine w_nil ?_
              exact ⟨(_, _), x_wkd 6 trivial rfl (by repeat (first | exact ag_refl | refine ag_upd rfl ?_ | refine ag_at rfl rfl ?_))⟩
        · apply w_l; (focus exact rfl); (focus exact rfl); (first | refine zL1 ?_ | refine zL2 ?_ | refine zL3 ?_ | refine zLp ?_)
          refine w_nil ?_
          refine wtt_fork3 ?_
          refine gW ?_
          refine w_nil ?_
          refine ⟨?_, ?_, ?_⟩
          · apply w_l; (focus exact rfl); (focus exact rfl); (first | refine zL1 ?_ | refine zL2 ?_ | refine zL3 ?_ | refine zLp ?_)
            refine w_nil ?_
            refine wtt_fork ?_
            refine w_nil ?_
            refine ⟨?_, ?_⟩
            · apply w_l; (focus exact rfl); (focus exact rfl); (first | refine zL1 ?_ | refine zL2 ?_ | refine zL3 ?_ | refine zLp ?_)
              refine w_nil ?_
              refine wtt_fork ?_
              refine gW ?_
              refine w_nil ?_
              refine ⟨?_, ?_⟩
              · apply w_l; (focus exact rfl); (focus exact rfl); (refine zAp (fun _ => ?_))
                refine w_nil ?_
                refine wtt_fin ?_
                apply w_l; (focus exact rfl); (focus exact rfl); (first | refine zL1 ?_ | refine zL2 ?_ | refine zL3 ?_ | refine zLp ?_)
                refine gW ?_
                apply w_l; (focus exact rfl); (focus exact rfl); (refine zAp (fun _ => ?_))
                apply w_l; (focus exact rfl); (focus exact rfl); (refine zS ?_)
                refine gW ?_
                apply w_l; (focus exact rfl); (focus exact rfl); (refine zS ?_)
                refine w_nil ?_
                exact ⟨(_, _), x_wkd 6 trivial rfl (by repeat (first | exact ag_refl | refine ag_upd rfl ?_ | refine ag_at rfl rfl ?_))⟩
              · apply w_l; (focus exact rfl); (focus exact rfl); (first | refine zL1 ?_ | refine zL2 ?_ | refine zL3 ?_ | refine zLp ?_)
                refine w_nil ?_
                refine wtt_fin ?_
                apply w_l; (focus exact rfl); (focus exact rfl); (refine zAp (fun _ => ?_))
                refine gW ?_
                apply w_l; (focus exact rfl); (focus exact rfl); (refine zAp (fun _ => ?_))
                apply w_l; (focus exact rfl); (focus exact rfl); (refine zS ?_)
                refine gW ?_
                apply w_l; (focus exact rfl); (focus exact rfl); (refine zS ?_)
                refine w_nil ?_
                exact ⟨(_, _), x_wkd 6 trivial rfl (by repeat (first | exact ag_refl | refine ag_upd rfl ?_ | refine ag_at rfl rfl ?_))⟩
            · apply w_l; (focus exact rfl); (focus exact rfl); (first | refine zL1 ?_ | refine zL2 ?_ | refine zL3 ?_ | refine zLp ?_)
              refine w_nil ?_
              refine wtt_fin ?_
              apply w_l; (focus exact rfl); (focus exact rfl); (first | refine zL1 ?_ | refine zL2 ?_ | refine zL3 ?_ | refine zLp ?_)
              refine gW ?_
              apply w_l; (focus exact rfl); (focus exact rfl); (refine zAp (fun _ => ?_))
              refine gW ?_
              apply w_l; (focus exact rfl); (focus exact rfl); (refine zAp (fun _ => ?_))
              apply w_l; (focus exact rfl); (focus exact rfl); (refine zS ?_)
              refine gW ?_
              apply w_l; (focus exact rfl); (focus exact rfl); (refine zS ?_)
              refine w_nil ?_
              exact ⟨(_, _), x_wkd 6 trivial rfl (by repeat (first | exact ag_refl | refine ag_upd rfl ?_ | refine ag_at rfl rfl ?_))⟩
          · apply w_l; (focus exact rfl); (focus exact rfl); (first | refine zL1 ?_ | refine zL2 ?_ | refine zL3 ?_ | refine zLp ?_)
            refine w_nil ?_
            refine wtt_fork ?_
            refine gW ?_
            refine w_nil ?_
            refine ⟨?_, ?_⟩
            · apply w_l; (focus exact rfl); (focus exact rfl); (first | refine zL1 ?_ | refine zL2 ?_ | refine zL3 ?_ | refine zLp ?_)
              refine w_nil ?_
              refine wtt_fork ?_
              refine w_nil ?_
              refine ⟨?_, ?_⟩
              · apply w_l; (focus exact rfl); (focus exact rfl); (refine zAp (fun _ => ?_))
                refine w_nil ?_
                refine wtt_fin ?_
                apply w_l; (focus exact rfl); (focus exact rfl); (first | refine zL1 ?_ | refine zL2 ?_ | refine zL3 ?_ | refine zLp ?_)
                refine gW ?_
                apply w_l; (focus exact rfl); (focus exact rfl); (refine zAp (fun _ => ?_))
                apply w_l; (focus exact rfl); (focus exact rfl); (refine zS ?_)
                refine gW ?_
                apply w_l; (focus exact rfl); (focus exact rfl); (refine zS ?_)
                refine w_nil ?_
                exact ⟨(_, _), x_wkd 6 trivial rfl (by repeat (first | exact ag_refl | refine ag_upd rfl ?_ | refine ag_at rfl rfl ?_))⟩
              · apply w_l; (focus exact rfl); (focus exact rfl); (first | refine zL1 ?_ | refine zL2 ?_ | refine zL3 ?_ | refine zLp ?_)
                refine w_nil ?_
                refine wtt_fin ?_
                apply w_l; (focus exact rfl); (focus exact rfl); (refine zAp (fun _ => ?_))
                refine gW ?_
                apply w_l; (focus exact rfl); (focus exact rfl); (refine zAp (fun _ => ?_))
                apply w_l; (focus exact rfl); (focus exact rfl); (refine zS ?_)
                refine gW ?_
                apply w_l; (focus exact rfl); (focus exact rfl); (refine zS ?_)
                refine w_nil ?_
                exact ⟨(_, _), x_wkd 6 trivial rfl (by repeat (first | exact ag_refl | refine ag_upd rfl ?_ | refine ag_at rfl rfl ?_))⟩
            · apply w_l; (focus exact rfl); (focus exact rfl); (first | refine zL1 ?_ | refine zL2 ?_ | refine zL3 ?_ | refine zLp ?_)
              refine w_nil ?_
              refine wtt_fin ?_
              apply w_l; (focus exact rfl); (focus exact rfl); (first | refine zL1 ?_ | refine zL2 ?_ | refine zL3 ?_ | refine zLp ?_)
              apply w_l; (focus exact rfl); (focus exact rfl); (refine zAp (fun _ => ?_))
              refine gW ?_
              apply w_l; (focus exact rfl); (focus exact rfl); (refine zAp (fun _ => ?_))
              apply w_l; (focus exact rfl); (focus exact rfl); (refine zS ?_)
              refine gW ?_
              apply w_l; (focus exact rfl); (focus exact rfl); (refine zS ?_)
              refine w_nil ?_
              exact ⟨(_, _), x_wkd 6 trivial rfl (by repeat (first | exact ag_refl | refine ag_upd rfl ?_ | refine ag_at rfl rfl ?_))⟩
          · apply w_l; (focus exact rfl); (focus exact rfl); (first | refine zL1 ?_ | refine zL2 ?_ | refine zL3 ?_ | refine zLp ?_)
            refine w_nil ?_
            refine wtt_fork ?_
            refine w_nil ?_
            refine ⟨?_, ?_⟩
            · apply w_l; (focus exact rfl); (focus exact rfl); (first | refine zL1 ?_ | refine zL2 ?_ | refine zL3 ?_ | refine zLp ?_)
              refine w_nil ?_
              refine wtt_fin ?_
              apply w_l; (focus exact rfl); (focus exact rfl); (first | refine zL1 ?_ | refine zL2 ?_ | refine zL3 ?_ | refine zLp ?_)
              refine gW ?_
              apply w_l; (focus exact rfl); (focus exact rfl); (refine zAp (fun _ => ?_))
              refine gW ?_
              apply w_l; (focus exact rfl); (focus exact rfl); (refine zAp (fun _ => ?_))
              apply w_l; (focus exact rfl); (focus exact rfl); (refine zS ?_)
              refine gW ?_
              apply w_l; (focus exact rfl); (focus exact rfl); (refine zS ?_)
              refine w_nil ?_
              exact ⟨(_, _), x_wkd 6 trivial rfl (by repeat (first | exact ag_refl | refine ag_upd rfl ?_ | refine ag_at rfl rfl ?_))⟩
            · apply w_l; (focus exact rfl); (focus exact rfl); (first | refine zL1 ?_ | refine zL2 ?_ | refine zL3 ?_ | refine zLp ?_)
              refine w_nil ?_
              refine wtt_fin ?_
              refine gW ?_
              apply w_l; (focus exact rfl); (focus exact rfl); (first | refine zL1 ?_ | refine zL2 ?_ | refine zL3 ?_ | refine zLp ?_)
              apply w_l; (focus exact rfl); (focus exact rfl); (refine zAp (fun _ => ?_))
              refine gW ?_
              apply w_l; (focus exact rfl); (focus exact rfl); (refine zAp (fun _ => ?_))
              apply w_l; (focus exact rfl); (focus exact rfl); (refine zS ?_)
              refine gW ?_
              apply w_l; (focus exact rfl); (focus exact rfl); (refine zS ?_)
              refine w_nil ?_
              exact ⟨(_, _), x_wkd 6 trivial rfl (by repeat (first | exact ag_refl | refine ag_upd rfl ?_ | refine ag_at rfl rfl ?_))⟩
      repeat (first | refine gG ?_ | refine zN1 (fun hlen => ?_) | refine zN2 (fun hlen => ?_) | refine zAl (fun _ => ?_) | refine zBx (fun _ => ?_) | refine zAp (fun _ => ?_))
      exact ⟨(r, vQ2, ns ++ [t], ts ++ [.mk k2 t2 l2], w.1, w.2), hin, qm_lt, x_wkd 4 ⟨rfl, trivial⟩ (by simp only [List.length_append, List.flatMap_append, Y.all_app]; rfl) (by repeat (first | exact ag_refl | refine ag_upd rfl ?_ | refine ag_at rfl rfl ?_))⟩
    have hjt : j < ts.length := by
      have := (List.getElem?_eq_some_iff.1 hp2).1
      have := h.len
      omega
    obtain ⟨x, hx⟩ := nth hjt
    have hmem := List.mem_of_getElem? hx
    have hzm : (t, x) ∈ ns.zip ts := List.mem_of_getElem? (by rw [List.getElem?_zip_eq_some]; exact ⟨hp2, hx⟩)
    have hmx := hmt x hmem
    have hat := Y.at hx
    have hsm := (Y.code x).iff (.mk k2 t2 l2)
    rw [hp1]
    have d0 : decide (((j : Nat) : Int) < 0) = false := decide_eq_false (by omega)
    by_cases hxy : x = .mk k2 t2 l2
    · have hin := fit_have h hpb (hxy ▸ hzm)
      have dm : decide (bs x.mark = bs (Y.mk k2 t2 l2).mark) = true := by rw [hxy]; simp
      clear h hmt hx hmem hzm hsm hp1 hp2 hxy
      generalize bs x.mark = m1 at *
      generalize bs (Y.mk k2 t2 l2).mark = m2 at *
      obtain ⟨kx, tx, lx⟩ := x
      repeat (first | refine gG ?_ | refine zN1 (fun hlen => ?_) | refine zN2 (fun hlen => ?_) | refine zAl (fun _ => ?_) | refine zBx (fun _ => ?_) | refine zAp (fun _ => ?_))
      refine ac_draw [1, 1, 1, 1, 1, 1, 1, 1, 1] [0, 1, 2, 3, 4, 5, 6, 7, 8] (by kernel_rfl) (by kernel_rfl) ?_
      refine gW ?_
      apply w_q; (focus exact rfl); (focus exact rfl); focus (intro _; (refine zIxo j hjt ?_); exact det_refl)
      apply w_q; (focus exact rfl); (focus exact rfl); focus (intro _; (refine zElo (ts := Y.ts (.mk kx tx lx)) hat rfl ?_); exact det_refl)
      apply w_q; (focus exact rfl); (focus exact rfl); focus (intro _; (refine zCall hmx ?_; rintro _ rfl); exact det_refl)
      refine gW ?_
      apply w_q; (focus exact rfl); (focus exact rfl); focus (intro _; (refine zCall hmy ?_; rintro _ rfl); exact det_refl)
      refine gW ?_
      refine w_nil ?_
      clear hmx hmy
      repeat (first | refine gG ?_ | refine zN1 (fun hlen => ?_) | refine zN2 (fun hlen => ?_) | refine zAl (fun _ => ?_) | refine zBx (fun _ => ?_) | refine zAp (fun _ => ?_))
      exact ⟨(r, vQ2, ns, ts, vN, vT), hin, qm_lt, x_wkd 4 ⟨rfl, trivial⟩ rfl (by repeat (first | exact ag_refl | refine ag_upd rfl ?_ | refine ag_at rfl rfl ?_))⟩
    · have hgf : g = false := bool_false h.good (good_clash ps hpb hzm hxy r)
      have dm : decide (bs x.mark = bs (Y.mk k2 t2 l2).mark) = false := decide_eq_false fun e => hxy ((same_iff x _).1 (by rw [hsm, decide_eq_true (bs_inj e)]))
      clear h hmt hx hmem hzm hsm hp1 hp2 hxy
      generalize bs x.mark = m1 at *
      generalize bs (Y.mk k2 t2 l2).mark = m2 at *
      obtain ⟨kx, tx, lx⟩ := x
      repeat (first | refine gG ?_ | refine zN1 (fun hlen => ?_) | refine zN2 (fun hlen => ?_) | refine zAl (fun _ => ?_) | refine zBx (fun _ => ?_) | refine zAp (fun _ => ?_))
      refine ac_draw [1, 1, 1, 1, 1, 1, 1, 1, 1] [0, 1, 2, 3, 4, 5, 6, 7, 8] (by kernel_rfl) (by kernel_rfl) ?_
      refine gW ?_
      apply w_q; (focus exact rfl); (focus exact rfl); focus (intro _; (refine zIxo j hjt ?_); exact det_refl)
      apply w_q; (focus exact rfl); (focus exact rfl); focus (intro _; (refine zElo (ts := Y.ts (.mk kx tx lx)) hat rfl ?_); exact det_refl)
      apply w_q; (focus exact rfl); (focus exact rfl); focus (intro _; (refine zCall hmx ?_; rintro _ rfl); exact det_refl)
      refine gW ?_
      apply w_q; (focus exact rfl); (focus exact rfl); focus (intro _; (refine zCall hmy ?_; rintro _ rfl); exact det_refl)
      refine gW ?_
      refine w_nil ?_
      clear hmx hmy
      repeat (first | refine gG ?_ | refine zN1 (fun hlen => ?_) | refine zN2 (fun hlen => ?_) | refine zAl (fun _ => ?_) | refine zBx (fun _ => ?_) | refine zAp (fun _ => ?_))
      first | refine zR ?_ | refine zQ ?_
      rw [hgf]; rfl
  · dsimp only [cond, List.cons_append, List.nil_append]
    repeat (first | refine gG ?_ | refine zN1 (fun hlen => ?_) | refine zN2 (fun hlen => ?_) | refine zAl (fun _ => ?_) | refine zBx (fun _ => ?_) | refine zAp (fun _ => ?_))
    refine zQl (n := r.length + 1) 1 (by omega) (fun vQ2 => ?_)
    have hpbd : parB ps k t = (decide (k = 5) && hasS ps t) := rfl
    cases d5 : decide (k = 5)
    · have hpb : parB ps k t = false := by rw [hpbd, d5]; rfl
      clear hc1
      cases d1 : decide (k = k2)
      · have hgf : g = false := bool_false h.good (good_off ps _ hpb (by unfold headB Y.kd; rw [d1]; rfl) r)
        clear h hix hpc hmy hmt hpbd
        repeat (first | refine gG ?_ | refine zN1 (fun hlen => ?_) | refine zN2 (fun hlen => ?_) | refine zAl (fun _ => ?_) | refine zBx (fun _ => ?_) | refine zAp (fun _ => ?_))
        first | refine zR ?_ | refine zQ ?_
        rw [hgf]; rfl

      cases d2 : decide (t = t2)
      · have hgf : g = false := bool_false h.good (good_off ps _ hpb (by unfold headB Y.kd Y.nm; rw [d1, d2]; rfl) r)
        clear h hix hpc hmy hmt hpbd
        repeat (first | refine gG ?_ | refine zN1 (fun hlen => ?_) | refine zN2 (fun hlen => ?_) | refine zAl (fun _ => ?_) | refine zBx (fun _ => ?_) | refine zAp (fun _ => ?_))
        first | refine zR ?_ | refine zQ ?_
        rw [hgf]; rfl

      cases d3 : decide (((l.length : Nat) : Int) = ((l2.length : Nat) : Int))
      · have hgf : g = false := bool_false h.good (good_off ps _ hpb (by unfold headB Y.kd Y.nm Y.as; rw [d1, d2]; exact d3) r)
        clear h hix hpc hmy hmt hpbd
        repeat (first | refine gG ?_ | refine zN1 (fun hlen => ?_) | refine zN2 (fun hlen => ?_) | refine zAl (fun _ => ?_) | refine zBx (fun _ => ?_) | refine zAp (fun _ => ?_))
        first | refine zR ?_ | refine zQ ?_
        rw [hgf]; rfl

      have hin := fit_in h hpb (by unfold headB Y.kd Y.nm Y.as; rw [d1, d2]; exact d3)
      have hle : l.length = l2.length := by have := of_decide_eq_true d3; omega
      have hμ : ((r ++ l.zip l2).map qm).sum < (((Y.mk k t l, Y.mk k2 t2 l2) :: r).map qm).sum := by
        have h1 := zip_mass l l2
        have h2 : (Y.mk k t l).mass = far k + (t.size + 1) + ((l.map Y.mass).sum + 1) := by rw [Y.mass, Y.masses_sum]
        rw [List.map_append, List.sum_append, List.map_cons, List.sum_cons]
        simp only [qm] at h1 ⊢
        omega
      clear h hix hpc hmy hmt hpbd
      repeat (first | refine gG ?_ | refine zN1 (fun hlen => ?_) | refine zN2 (fun hlen => ?_) | refine zAl (fun _ => ?_) | refine zBx (fun _ => ?_) | refine zAp (fun _ => ?_))
      refine x_loop [8, 12, 93, 94, 95, 96, 97, 98, 99, 100, 101, 102, 103, 104, 105, 106, 107, 108, 109, 110] (fun y : Nat × Value => [(93, .c (.lit (.int .i64 (y.1 : Nat)))), (8, .own 1 y.2)]) (fun y => [.box b7 199 [.own 2 vN, .own 3 vT], .row y.2 200 6 (r ++ (l.zip l2).take y.1).length (qall (r ++ (l.zip l2).take y.1)), .row vN 9 1 ns.length (ns.flatMap strTs), .row vT 64 3 ts.length (Y.all ts), .box b9 64 [.c (.lit (.int .i64 k)), .c (.lit (.string t)), .c (Y.row l)], .box b10 64 [.c (.lit (.int .i64 k2)), .c (.lit (.string t2)), .c (Y.row l2)]]) (fun y => y.1 ≤ l.length) (fun y => l.length - y.1) (0, vQ2) (Nat.zero_le _) ⟨rfl, rfl, trivial⟩ (by simp only [List.take_zero, List.append_nil]; rfl) ?_
      rintro ⟨j, u⟩ hj
      dsimp only at hj ⊢
      repeat (first | refine gG ?_ | refine zN1 (fun hlen => ?_) | refine zN2 (fun hlen => ?_) | refine zAl (fun _ => ?_) | refine zBx (fun _ => ?_) | refine zAp (fun _ => ?_))
      refine x_cond rfl (fun hcd => ?_) (fun hcd => ?_)
      · have hj' : j < l.length := by simpa using hcd
        have hj2 : j < l2.length := by omega
        obtain ⟨a1, ha1⟩ := nth hj'
        obtain ⟨a2, ha2⟩ := nth hj2
        have hat1 := Y.at ha1
        have hat2 := Y.at ha2
        have hz := zip_at ha1 ha2
        have hl1 : (r ++ (l.zip l2).take (j + 1)).length = (r ++ (l.zip l2).take j).length + 1 := by rw [List.take_add_one, hz]; simp; omega
        have hc3 : qall (r ++ (l.zip l2).take (j + 1)) = qall (r ++ (l.zip l2).take j) ++ Pq.ts (a1, a2) := by rw [List.take_add_one, hz, ← List.append_assoc, qall_app]; simp [qall]
        have hlb : (r ++ (l.zip l2).take j).length ≤ 1048576 := by rw [List.length_append, List.length_take]; omega
        clear hcd ha1 ha2 hz hin
        obtain ⟨k3, t3, l3⟩ := a1
        obtain ⟨k4, t4, l4⟩ := a2
        repeat (first | refine gG ?_ | refine zN1 (fun hlen => ?_) | refine zN2 (fun hlen => ?_) | refine zAl (fun _ => ?_) | refine zBx (fun _ => ?_) | refine zAp (fun _ => ?_))
        refine ac_draw [1, 1, 1, 1, 1, 1, 1, 1, 1, 1, 1, 1, 1, 2, 1] [0, 1, 2, 3, 4, 5, 6, 7, 8, 9, 10, 11, 12, 13, 14] (by kernel_rfl) (by kernel_rfl) ?_
        refine gW ?_
        apply w_q; (focus exact rfl); (focus exact rfl); focus (intro _; (refine zIx j hj' ?_); exact det_refl)
        apply w_q; (focus exact rfl); (focus exact rfl); focus (intro _; (refine zEl hat1 (Y.ts_len _) ?_); exact det_refl)
        refine gW ?_
        apply w_q; (focus exact rfl); (focus exact rfl); focus (intro _; (refine zIx j hj2 ?_); exact det_refl)
        apply w_q; (focus exact rfl); (focus exact rfl); focus (intro _; (refine zEl hat2 (Y.ts_len _) ?_); exact det_refl)
        apply w_q; (focus exact rfl); (focus exact rfl); focus (intro _; (refine zBda ?_); exact det_refl)
        refine gW ?_
        apply w_l; (focus exact rfl); (focus exact rfl); (refine zAp (fun _ => ?_))
        refine gW ?_
        refine w_nil ?_
        repeat (first | refine gG ?_ | refine zN1 (fun hlen => ?_) | refine zN2 (fun hlen => ?_) | refine zAl (fun _ => ?_) | refine zBx (fun _ => ?_) | refine zAp (fun _ => ?_))
        exact ⟨(j + 1, _), hj', by simp only; omega, x_wkd 6 ⟨rfl, rfl, trivial⟩ (by simp only [hl1, hc3]; rfl) (by repeat (first | exact ag_refl | refine ag_upd rfl ?_ | refine ag_at rfl rfl ?_))⟩
      · have hj' : j = l.length := by
          have : ¬ j < l.length := by simpa using hcd
          omega
        subst hj'
        clear hcd
        have htk : (l.zip l2).take l.length = l.zip l2 := List.take_of_length_le (by rw [List.length_zip]; omega)
        rw [htk]
        repeat (first | refine gG ?_ | refine zN1 (fun hlen => ?_) | refine zN2 (fun hlen => ?_) | refine zAl (fun _ => ?_) | refine zBx (fun _ => ?_) | refine zAp (fun _ => ?_))
        exact ⟨(r ++ l.zip l2, u, ns, ts, vN, vT), hin, hμ, x_wkd 4 ⟨rfl, trivial⟩ rfl (by repeat (first | exact ag_refl | refine ag_upd rfl ?_ | refine ag_at rfl rfl ?_))⟩

    cases hs : hasS ps t
    · have hpb : parB ps k t = false := by rw [hpbd, d5, hs]; rfl
      rw [hs] at hc1
      cases d1 : decide (k = k2)
      · have hgf : g = false := bool_false h.good (good_off ps _ hpb (by unfold headB Y.kd; rw [d1]; rfl) r)
        clear h hix hpc hmy hmt hpbd
        repeat (first | refine gG ?_ | refine zN1 (fun hlen => ?_) | refine zN2 (fun hlen => ?_) | refine zAl (fun _ => ?_) | refine zBx (fun _ => ?_) | refine zAp (fun _ => ?_))
        refine zCall (hc1) ?_
        rintro _ rfl
        clear hc1
        repeat (first | refine gG ?_ | refine zN1 (fun hlen => ?_) | refine zN2 (fun hlen => ?_) | refine zAl (fun _ => ?_) | refine zBx (fun _ => ?_) | refine zAp (fun _ => ?_))
        first | refine zR ?_ | refine zQ ?_
        rw [hgf]; rfl

      cases d2 : decide (t = t2)
      · have hgf : g = false := bool_false h.good (good_off ps _ hpb (by unfold headB Y.kd Y.nm; rw [d1, d2]; rfl) r)
        clear h hix hpc hmy hmt hpbd
        repeat (first | refine gG ?_ | refine zN1 (fun hlen => ?_) | refine zN2 (fun hlen => ?_) | refine zAl (fun _ => ?_) | refine zBx (fun _ => ?_) | refine zAp (fun _ => ?_))
        refine zCall (hc1) ?_
        rintro _ rfl
        clear hc1
        repeat (first | refine gG ?_ | refine zN1 (fun hlen => ?_) | refine zN2 (fun hlen => ?_) | refine zAl (fun _ => ?_) | refine zBx (fun _ => ?_) | refine zAp (fun _ => ?_))
        first | refine zR ?_ | refine zQ ?_
        rw [hgf]; rfl

      cases d3 : decide (((l.length : Nat) : Int) = ((l2.length : Nat) : Int))
      · have hgf : g = false := bool_false h.good (good_off ps _ hpb (by unfold headB Y.kd Y.nm Y.as; rw [d1, d2]; exact d3) r)
        clear h hix hpc hmy hmt hpbd
        repeat (first | refine gG ?_ | refine zN1 (fun hlen => ?_) | refine zN2 (fun hlen => ?_) | refine zAl (fun _ => ?_) | refine zBx (fun _ => ?_) | refine zAp (fun _ => ?_))
        refine zCall (hc1) ?_
        rintro _ rfl
        clear hc1
        repeat (first | refine gG ?_ | refine zN1 (fun hlen => ?_) | refine zN2 (fun hlen => ?_) | refine zAl (fun _ => ?_) | refine zBx (fun _ => ?_) | refine zAp (fun _ => ?_))
        first | refine zR ?_ | refine zQ ?_
        rw [hgf]; rfl

      have hin := fit_in h hpb (by unfold headB Y.kd Y.nm Y.as; rw [d1, d2]; exact d3)
      have hle : l.length = l2.length := by have := of_decide_eq_true d3; omega
      have hμ : ((r ++ l.zip l2).map qm).sum < (((Y.mk k t l, Y.mk k2 t2 l2) :: r).map qm).sum := by
        have h1 := zip_mass l l2
        have h2 : (Y.mk k t l).mass = far k + (t.size + 1) + ((l.map Y.mass).sum + 1) := by rw [Y.mass, Y.masses_sum]
        rw [List.map_append, List.sum_append, List.map_cons, List.sum_cons]
        simp only [qm] at h1 ⊢
        omega
      clear h hix hpc hmy hmt hpbd
      repeat (first | refine gG ?_ | refine zN1 (fun hlen => ?_) | refine zN2 (fun hlen => ?_) | refine zAl (fun _ => ?_) | refine zBx (fun _ => ?_) | refine zAp (fun _ => ?_))
      refine zCall (hc1) ?_
      rintro _ rfl
      clear hc1
      repeat (first | refine gG ?_ | refine zN1 (fun hlen => ?_) | refine zN2 (fun hlen => ?_) | refine zAl (fun _ => ?_) | refine zBx (fun _ => ?_) | refine zAp (fun _ => ?_))
      refine x_loop [8, 12, 93, 94, 95, 96, 97, 98, 99, 100, 101, 102, 103, 104, 105, 106, 107, 108, 109, 110] (fun y : Nat × Value => [(93, .c (.lit (.int .i64 (y.1 : Nat)))), (8, .own 1 y.2)]) (fun y => [.box b7 199 [.own 2 vN, .own 3 vT], .row y.2 200 6 (r ++ (l.zip l2).take y.1).length (qall (r ++ (l.zip l2).take y.1)), .row vN 9 1 ns.length (ns.flatMap strTs), .row vT 64 3 ts.length (Y.all ts), .box b9 64 [.c (.lit (.int .i64 k)), .c (.lit (.string t)), .c (Y.row l)], .box b10 64 [.c (.lit (.int .i64 k2)), .c (.lit (.string t2)), .c (Y.row l2)]]) (fun y => y.1 ≤ l.length) (fun y => l.length - y.1) (0, vQ2) (Nat.zero_le _) ⟨rfl, rfl, trivial⟩ (by simp only [List.take_zero, List.append_nil]; rfl) ?_
      rintro ⟨j, u⟩ hj
      dsimp only at hj ⊢
      repeat (first | refine gG ?_ | refine zN1 (fun hlen => ?_) | refine zN2 (fun hlen => ?_) | refine zAl (fun _ => ?_) | refine zBx (fun _ => ?_) | refine zAp (fun _ => ?_))
      refine x_cond rfl (fun hcd => ?_) (fun hcd => ?_)
      · have hj' : j < l.length := by simpa using hcd
        have hj2 : j < l2.length := by omega
        obtain ⟨a1, ha1⟩ := nth hj'
        obtain ⟨a2, ha2⟩ := nth hj2
        have hat1 := Y.at ha1
        have hat2 := Y.at ha2
        have hz := zip_at ha1 ha2
        have hl1 : (r ++ (l.zip l2).take (j + 1)).length = (r ++ (l.zip l2).take j).length + 1 := by rw [List.take_add_one, hz]; simp; omega
        have hc3 : qall (r ++ (l.zip l2).take (j + 1)) = qall (r ++ (l.zip l2).take j) ++ Pq.ts (a1, a2) := by rw [List.take_add_one, hz, ← List.append_assoc, qall_app]; simp [qall]
        have hlb : (r ++ (l.zip l2).take j).length ≤ 1048576 := by rw [List.length_append, List.length_take]; omega
        clear hcd ha1 ha2 hz hin
        obtain ⟨k3, t3, l3⟩ := a1
        obtain ⟨k4, t4, l4⟩ := a2
        repeat (first | refine gG ?_ | refine zN1 (fun hlen => ?_) | refine zN2 (fun hlen => ?_) | refine zAl (fun _ => ?_) | refine zBx (fun _ => ?_) | refine zAp (fun _ => ?_))
        refine ac_draw [1, 1, 1, 1, 1, 1, 1, 1, 1, 1, 1, 1, 1, 2, 1] [0, 1, 2, 3, 4, 5, 6, 7, 8, 9, 10, 11, 12, 13, 14] (by kernel_rfl) (by kernel_rfl) ?_
        refine gW ?_
        apply w_q; (focus exact rfl); (focus exact rfl); focus (intro _; (refine zIx j hj' ?_); exact det_refl)
        apply w_q; (focus exact rfl); (focus exact rfl); focus (intro _; (refine zEl hat1 (Y.ts_len _) ?_); exact det_refl)
        refine gW ?_
        apply w_q; (focus exact rfl); (focus exact rfl); focus (intro _; (refine zIx j hj2 ?_); exact det_refl)
        apply w_q; (focus exact rfl); (focus exact rfl); focus (intro _; (refine zEl hat2 (Y.ts_len _) ?_); exact det_refl)
        apply w_q; (focus exact rfl); (focus exact rfl); focus (intro _; (refine zBda ?_); exact det_refl)
        refine gW ?_
        apply w_l; (focus exact rfl); (focus exact rfl); (refine zAp (fun _ => ?_))
        refine gW ?_
        refine w_nil ?_
        repeat (first | refine gG ?_ | refine zN1 (fun hlen => ?_) | refine zN2 (fun hlen => ?_) | refine zAl (fun _ => ?_) | refine zBx (fun _ => ?_) | refine zAp (fun _ => ?_))
        exact ⟨(j + 1, _), hj', by simp only; omega, x_wkd 6 ⟨rfl, rfl, trivial⟩ (by simp only [hl1, hc3]; rfl) (by repeat (first | exact ag_refl | refine ag_upd rfl ?_ | refine ag_at rfl rfl ?_))⟩
      · have hj' : j = l.length := by
          have : ¬ j < l.length := by simpa using hcd
          omega
        subst hj'
        clear hcd
        have htk : (l.zip l2).take l.length = l.zip l2 := List.take_of_length_le (by rw [List.length_zip]; omega)
        rw [htk]
        repeat (first | refine gG ?_ | refine zN1 (fun hlen => ?_) | refine zN2 (fun hlen => ?_) | refine zAl (fun _ => ?_) | refine zBx (fun _ => ?_) | refine zAp (fun _ => ?_))
        exact ⟨(r ++ l.zip l2, u, ns, ts, vN, vT), hin, hμ, x_wkd 4 ⟨rfl, trivial⟩ rfl (by repeat (first | exact ag_refl | refine ag_upd rfl ?_ | refine ag_at rfl rfl ?_))⟩

    have hpb : parB ps k t = true := by rw [hpbd, d5, hs]; rfl
    rw [hs] at hc1
    clear hpbd
    repeat (first | refine gG ?_ | refine zN1 (fun hlen => ?_) | refine zN2 (fun hlen => ?_) | refine zAl (fun _ => ?_) | refine zBx (fun _ => ?_) | refine zAp (fun _ => ?_))
    refine zCall (hc1) ?_
    rintro _ rfl
    clear hc1
    repeat (first | refine gG ?_ | refine zN1 (fun hlen => ?_) | refine zN2 (fun hlen => ?_) | refine zAl (fun _ => ?_) | refine zBx (fun _ => ?_) | refine zAp (fun _ => ?_))
    refine zPeek hix ?_
    rintro _ rfl
    refine ⟨rfl, ?_⟩
    clear hix
    rcases hpc with ⟨hp1, hp2⟩ | ⟨j, hp1, hp2⟩
    · rw [hp1]
      have hin := fit_bind h hpb hp2
      clear h hp1 hp2 hmy hmt
      repeat (first | refine gG ?_ | refine zN1 (fun hlen => ?_) | refine zN2 (fun hlen => ?_) | refine zAl (fun _ => ?_) | refine zBx (fun _ => ?_) | refine zAp (fun _ => ?_))
      refine x_join [47, 48, 49, 50, 51, 52, 53, 54, 55, 56, 57, 58, 59] (fun _ : Value × Value => []) (fun w => [.box b7 199 [.own 2 w.1, .own 3 w.2], .row vQ2 200 6 r.length (qall r), .row w.1 9 1 (ns.length + 1) (ns.flatMap strTs ++ [.lit (.string t)]), .row w.2 64 3 (ts.length + 1) (Y.all ts ++ [.lit (.int .i64 k2), .lit (.string t2), Y.row l2]), .box b9 64 [.c (.lit (.int .i64 k)), .c (.lit (.string t)), .c (Y.row l)], .box b10 64 [.c (.lit (.int .i64 k2)), .c (.lit (.string t2)), .c (Y.row l2)]]) (fun w => ?_) ?_
      rotate_left
      · skip
        refine ac_drawT3 [0, 2, 0, 2, 0, 2, 0, 2, 2, 0, 2, 0, 2, 0, 2] (.fork4 [0, 2, 6] 1 (.fork3 [] 3 (.fork3 [4] 5 (.fork [] 7 (.fin [11, 8, 9, 10, 12, 13, 14]) 8 (.fin [9, 7, 11, 10, 12, 13, 14])) 7 (.fork [] 5 (.fin [11, 8, 9, 10, 12, 13, 14]) 8 (.fin [9, 5, 11, 10, 12, 13, 14])) 8 (.fork [9] 5 (.fin [7, 11, 10, 12, 13, 14]) 7 (.fin [5, 11, 10, 12, 13, 14]))) 7 (.fork [] 3 (.fork [4] 5 (.fin [11, 8, 9, 10, 12, 13, 14]) 8 (.fin [9, 5, 11, 10, 12, 13, 14])) 8 (.fin [9, 3, 4, 5, 11, 10, 12, 13, 14])) 8 (.fork [9] 3 (.fork [4] 5 (.fin [7, 11, 10, 12, 13, 14]) 7 (.fin [5, 11, 10, 12, 13, 14])) 7 (.fin [3, 4, 5, 11, 10, 12, 13, 14]))) 3 (.fork3 [4] 1 (.fork3 [] 5 (.fork [] 7 (.fin [11, 8, 9, 10, 12, 13, 14]) 8 (.fin [9, 7, 11, 10, 12, 13, 14])) 7 (.fork [] 5 (.fin [11, 8, 9, 10, 12, 13, 14]) 8 (.fin [9, 5, 11, 10, 12, 13, 14])) 8 (.fork [9] 5 (.fin [7, 11, 10, 12, 13, 14]) 7 (.fin [5, 11, 10, 12, 13, 14]))) 7 (.fork [] 1 (.fork [] 5 (.fin [11, 8, 9, 10, 12, 13, 14]) 8 (.fin [9, 5, 11, 10, 12, 13, 14])) 8 (.fin [9, 1, 5, 11, 10, 12, 13, 14])) 8 (.fork [9] 1 (.fork [] 5 (.fin [7, 11, 10, 12, 13, 14]) 7 (.fin [5, 11, 10, 12, 13, 14])) 7 (.fin [1, 5, 11, 10, 12, 13, 14]))) 7 (.fork3 [] 1 (.fork [] 3 (.fork [4] 5 (.fin [11, 8, 9, 10, 12, 13, 14]) 8 (.fin [9, 5, 11, 10, 12, 13, 14])) 8 (.fin [9, 3, 4, 5, 11, 10, 12, 13, 14])) 3 (.fork [4] 1 (.fork [] 5 (.fin [11, 8, 9, 10, 12, 13, 14]) 8 (.fin [9, 5, 11, 10, 12, 13, 14])) 8 (.fin [9, 1, 5, 11, 10, 12, 13, 14])) 8 (.fork [9] 1 (.fin [3, 4, 5, 11, 10, 12, 13, 14]) 3 (.fin [4, 1, 5, 11, 10, 12, 13, 14]))) 8 (.fork3 [9] 1 (.fork [] 3 (.fork [4] 5 (.fin [7, 11, 10, 12, 13, 14]) 7 (.fin [5, 11, 10, 12, 13, 14])) 7 (.fin [3, 4, 5, 11, 10, 12, 13, 14])) 3 (.fork [4] 1 (.fork [] 5 (.fin [7, 11, 10, 12, 13, 14]) 7 (.fin [5, 11, 10, 12, 13, 14])) 7 (.fin [1, 5, 11, 10, 12, 13, 14])) 7 (.fork [] 1 (.fin [3, 4, 5, 11, 10, 12, 13, 14]) 3 (.fin [4, 1, 5, 11, 10, 12, 13, 14])))) (by kernel_rfl) (by kernel_rfl) ?_
        refine wtt_fork4 ?_
        refine gW ?_
        refine w_nil ?_
        refine ⟨?_, ?_, ?_, ?_⟩
        · apply w_l; (focus exact rfl); (focus exact rfl); (first | refine zL1 ?_ | refine zL2 ?_ | refine zL3 ?_ | refine zLp ?_)
          refine w_nil ?_
          refine wtt_fork3 ?_
          refine w_nil ?_
          refine ⟨?_, ?_, ?_⟩
          · apply w_l; (focus exact rfl); (focus exact rfl); (first | refine zL1 ?_ | refine zL2 ?_ | refine zL3 ?_ | refine zLp ?_)
            refine w_nil ?_
            refine wtt_fork3 ?_
            refine gW ?_
            refine w_nil ?_
            refine ⟨?_, ?_, ?_⟩
            · apply w_l; (focus exact rfl); (focus exact rfl); (refine zAp (fun _ => ?_))
              refine w_nil ?_
              refine wtt_fork ?_
              refine w_nil ?_
              refine ⟨?_, ?_⟩
              · apply w_l; (focus exact rfl); (focus exact rfl); (first | refine zL1 ?_ | refine zL2 ?_ | refine zL3 ?_ | refine zLp ?_)
                refine w_nil ?_
                refine wtt_fin ?_
                refine gW ?_
                apply w_l; (focus exact rfl); (focus exact rfl); (first | refine zL1 ?_ | refine zL2 ?_ | refine zL3 ?_ | refine zLp ?_)
                refine gW ?_
                apply w_l; (focus exact rfl); (focus exact rfl); (refine zAp (fun _ => ?_))
                apply w_l; (focus exact rfl); (focus exact rfl); (refine zS ?_)
                refine gW ?_
                apply w_l; (focus exact rfl); (focus exact rfl); (refine zS ?_)
                refine w_nil ?_
                exact ⟨(_, _), x_wkd 6 trivial rfl (by repeat (first | exact ag_refl | refine ag_upd rfl ?_ | refine ag_at rfl rfl ?_))⟩
              · apply w_l; (focus exact rfl); (focus exact rfl); (first | refine zL1 ?_ | refine zL2 ?_ | refine zL3 ?_ | refine zLp ?_)
                refine w_nil ?_
                refine wtt_fin ?_
                refine gW ?_
                apply w_l; (focus exact rfl); (focus exact rfl); (first | refine zL1 ?_ | refine zL2 ?_ | refine zL3 ?_ | refine zLp ?_)
                refine gW ?_
                apply w_l; (focus exact rfl); (focus exact rfl); (refine zAp (fun _ => ?_))
                apply w_l; (focus exact rfl); (focus exact rfl); (refine zS ?_)
                refine gW ?_
                apply w_l; (focus exact rfl); (focus exact rfl); (refine zS ?_)
                refine w_nil ?_
                exact ⟨(_, _), x_wkd 6 trivial rfl (by repeat (first | exact ag_refl | refine ag_upd rfl ?_ | refine ag_at rfl rfl ?_))⟩
            · apply w_l; (focus exact rfl); (focus exact rfl); (first | refine zL1 ?_ | refine zL2 ?_ | refine zL3 ?_ | refine zLp ?_)
              refine w_nil ?_
              refine wtt_fork ?_
              refine w_nil ?_
              refine ⟨?_, ?_⟩
              · apply w_l; (focus exact rfl); (focus exact rfl); (refine zAp (fun _ => ?_))
                refine w_nil ?_
                refine wtt_fin ?_
                refine gW ?_
                apply w_l; (focus exact rfl); (focus exact rfl); (first | refine zL1 ?_ | refine zL2 ?_ | refine zL3 ?_ | refine zLp ?_)
                refine gW ?_
                apply w_l; (focus exact rfl); (focus exact rfl); (refine zAp (fun _ => ?_))
                apply w_l; (focus exact rfl); (focus exact rfl); (refine zS ?_)
                refine gW ?_
                apply w_l; (focus exact rfl); (focus exact rfl); (refine zS ?_)
                refine w_nil ?_
                exact ⟨(_, _), x_wkd 6 trivial rfl (by repeat (first | exact ag_refl | refine ag_upd rfl ?_ | refine ag_at rfl rfl ?_))⟩
              · apply w_l; (focus exact rfl); (focus exact rfl); (first | refine zL1 ?_ | refine zL2 ?_ | refine zL3 ?_ | refine zLp ?_)
                refine w_nil ?_
                refine wtt_fin ?_
                refine gW ?_
                apply w_l; (focus exact rfl); (focus exact rfl); (refine zAp (fun _ => ?_))
                refine gW ?_
                apply w_l; (focus exact rfl); (focus exact rfl); (refine zAp (fun _ => ?_))
                apply w_l; (focus exact rfl); (focus exact rfl); (refine zS ?_)
                refine gW ?_
                apply w_l; (focus exact rfl); (focus exact rfl); (refine zS ?_)
                refine w_nil ?_
                exact ⟨(_, _), x_wkd 6 trivial rfl (by repeat (first | exact ag_refl | refine ag_upd rfl ?_ | refine ag_at rfl rfl ?_))⟩
            · apply w_l; (focus exact rfl); (focus exact rfl); (first | refine zL1 ?_ | refine zL2 ?_ | refine zL3 ?_ | refine zLp ?_)
              refine w_nil ?_
              refine wtt_fork ?_
              refine gW ?_
              refine w_nil ?_
              refine ⟨?_, ?_⟩
              · apply w_l; (focus exact rfl); (focus exact rfl); (refine zAp (fun _ => ?_))
                refine w_nil ?_
                refine wtt_fin ?_
                apply w_l; (focus exact rfl); (focus exact rfl); (first | refine zL1 ?_ | refine zL2 ?_ | refine zL3 ?_ | refine zLp ?_)
                refine gW ?_
                apply w_l; (focus exact rfl); (focus exact rfl); (refine zAp (fun _ => ?_))
                apply w_l; (focus exact rfl); (focus exact rfl); (refine zS ?_)
                refine gW ?_
                apply w_l; (focus exact rfl); (focus exact rfl); (refine zS ?_)
                refine w_nil ?_
                exact ⟨(_, _), x_wkd 6 trivial rfl (by repeat (first | exact ag_refl | refine ag_upd rfl ?_ | refine ag_at rfl rfl ?_))⟩
              · apply w_l; (focus exact rfl); (focus exact rfl); (first | refine zL1 ?_ | refine zL2 ?_ | refine zL3 ?_ | refine zLp ?_)
                refine w_nil ?_
                refine wtt_fin ?_
                apply w_l; (focus exact rfl); (focus exact rfl); (refine zAp (fun _ => ?_))
                refine gW ?_
                apply w_l; (focus exact rfl); (focus exact rfl); (refine zAp (fun _ => ?_))
                apply w_l; (focus exact rfl); (focus exact rfl); (refine zS ?_)
                refine gW ?_
                apply w_l; (focus exact rfl); (focus exact rfl); (refine zS ?_)
                refine w_nil ?_
                exact ⟨(_, _), x_wkd 6 trivial rfl (by repeat (first | exact ag_refl | refine ag_upd rfl ?_ | refine ag_at rfl rfl ?_))⟩
          · apply w_l; (focus exact rfl); (focus exact rfl); (first | refine zL1 ?_ | refine zL2 ?_ | refine zL3 ?_ | refine zLp ?_)
            refine w_nil ?_
            refine wtt_fork ?_
            refine w_nil ?_
            refine ⟨?_, ?_⟩
            · apply w_l; (focus exact rfl); (focus exact rfl); (first | refine zL1 ?_ | refine zL2 ?_ | refine zL3 ?_ | refine zLp ?_)
              refine w_nil ?_
              refine wtt_fork ?_
              refine gW ?_
              refine w_nil ?_
              refine ⟨?_, ?_⟩
              · apply w_l; (focus exact rfl); (focus exact rfl); (refine zAp (fun _ => ?_))
                refine w_nil ?_
                refine wtt_fin ?_
                refine gW ?_
                apply w_l; (focus exact rfl); (focus exact rfl); (first | refine zL1 ?_ | refine zL2 ?_ | refine zL3 ?_ | refine zLp ?_)
                refine gW ?_
                apply w_l; (focus exact rfl); (focus exact rfl); (refine zAp (fun _ => ?_))
                apply w_l; (focus exact rfl); (focus exact rfl); (refine zS ?_)
                refine gW ?_
                apply w_l; (focus exact rfl); (focus exact rfl); (refine zS ?_)
                refine w_nil ?_
                exact ⟨(_, _), x_wkd 6 trivial rfl (by repeat (first | exact ag_refl | refine ag_upd rfl ?_ | refine ag_at rfl rfl ?_))⟩
              · apply w_l; (focus exact rfl); (focus exact rfl); (first | refine zL1 ?_ | refine zL2 ?_ | refine zL3 ?_ | refine zLp ?_)
                refine w_nil ?_
                refine wtt_fin ?_
                refine gW ?_
                apply w_l; (focus exact rfl); (focus exact rfl); (refine zAp (fun _ => ?_))
                refine gW ?_
                apply w_l; (focus exact rfl); (focus exact rfl); (refine zAp (fun _ => ?_))
                apply w_l; (focus exact rfl); (focus exact rfl); (refine zS ?_)
                refine gW ?_
                apply w_l; (focus exact rfl); (focus exact rfl); (refine zS ?_)
                refine w_nil ?_
                exact ⟨(_, _), x_wkd 6 trivial rfl (by repeat (first | exact ag_refl | refine ag_upd rfl ?_ | refine ag_at rfl rfl ?_))⟩
            · apply w_l; (focus exact rfl); (focus exact rfl); (first | refine zL1 ?_ | refine zL2 ?_ | refine zL3 ?_ | refine zLp ?_)
              refine w_nil ?_
              refine wtt_fin ?_
              refine gW ?_
              apply w_l; (focus exact rfl); (focus exact rfl); (first | refine zL1 ?_ | refine zL2 ?_ | refine zL3 ?_ | refine zLp ?_)
              refine gW ?_
              apply w_l; (focus exact rfl); (focus exact rfl); (refine zAp (fun _ => ?_))
              refine gW ?_
              apply w_l; (focus exact rfl); (focus exact rfl); (refine zAp (fun _ => ?_))
              apply w_l; (focus exact rfl); (focus exact rfl); (refine zS ?_)
              refine gW ?_
              apply w_l; (focus exact rfl); (focus exact rfl); (refine zS ?_)
              refine w_nil ?_
              exact ⟨(_, _), x_wkd 6 trivial rfl (by repeat (first | exact ag_refl | refine ag_upd rfl ?_ | refine ag_at rfl rfl ?_))⟩
          · apply w_l; (focus exact rfl); (focus exact rfl); (first | refine zL1 ?_ | refine zL2 ?_ | refine zL3 ?_ | refine zLp ?_)
            refine w_nil ?_
            refine wtt_fork ?_
            refine gW ?_
            refine w_nil ?_
            refine ⟨?_, ?_⟩
            · apply w_l; (focus exact rfl); (focus exact rfl); (first | refine zL1 ?_ | refine zL2 ?_ | refine zL3 ?_ | refine zLp ?_)
              refine w_nil ?_
              refine wtt_fork ?_
              refine gW ?_
              refine w_nil ?_
              refine ⟨?_, ?_⟩
              · apply w_l; (focus exact rfl); (focus exact rfl); (refine zAp (fun _ => ?_))
                refine w_nil ?_
                refine wtt_fin ?_
                apply w_l; (focus exact rfl); (focus exact rfl); (first | refine zL1 ?_ | refine zL2 ?_ | refine zL3 ?_ | refine zLp ?_)
                refine gW ?_
                apply w_l; (focus exact rfl); (focus exact rfl); (refine zAp (fun _ => ?_))
                apply w_l; (focus exact rfl); (focus exact rfl); (refine zS ?_)
                refine gW ?_
                apply w_l; (focus exact rfl); (focus exact rfl); (refine zS ?_)
                refine w_nil ?_
                exact ⟨(_, _), x_wkd 6 trivial rfl (by repeat (first | exact ag_refl | refine ag_upd rfl ?_ | refine ag_at rfl rfl ?_))⟩
              · apply w_l; (focus exact rfl); (focus exact rfl); (first | refine zL1 ?_ | refine zL2 ?_ | refine zL3 ?_ | refine zLp ?_)
                refine w_nil ?_
                refine wtt_fin ?_
                apply w_l; (focus exact rfl); (focus exact rfl); (refine zAp (fun _ => ?_))
                refine gW ?_
                apply w_l; (focus exact rfl); (focus exact rfl); (refine zAp (fun _ => ?_))
                apply w_l; (focus exact rfl); (focus exact rfl); (refine zS ?_)
                refine gW ?_
                apply w_l; (focus exact rfl); (focus exact rfl); (refine zS ?_)
                refine w_nil ?_
                exact ⟨(_, _), x_wkd 6 trivial rfl (by repeat (first | exact ag_refl | refine ag_upd rfl ?_ | refine ag_at rfl rfl ?_))⟩
            · apply w_l; (focus exact rfl); (focus exact rfl); (first | refine zL1 ?_ | refine zL2 ?_ | refine zL3 ?_ | refine zLp ?_)
              refine w_nil ?_
              refine wtt_fin ?_
              apply w_l; (focus exact rfl); (focus exact rfl); (first | refine zL1 ?_ | refine zL2 ?_ | refine zL3 ?_ | refine zLp ?_)
              refine gW ?_
              apply w_l; (focus exact rfl); (focus exact rfl); (refine zAp (fun _ => ?_))
              refine gW ?_
              apply w_l; (focus exact rfl); (focus exact rfl); (refine zAp (fun _ => ?_))
              apply w_l; (focus exact rfl); (focus exact rfl); (refine zS ?_)
              refine gW ?_
              apply w_l; (focus exact rfl); (focus exact rfl); (refine zS ?_)
              refine w_nil ?_
              exact ⟨(_, _), x_wkd 6 trivial rfl (by repeat (first | exact ag_refl | refine ag_upd rfl ?_ | refine ag_at rfl rfl ?_))⟩
        · apply w_l; (focus exact rfl); (focus exact rfl); (first | refine zL1 ?_ | refine zL2 ?_ | refine zL3 ?_ | refine zLp ?_)
          refine w_nil ?_
          refine wtt_fork3 ?_
          refine gW ?_
          refine w_nil ?_
          refine ⟨?_, ?_, ?_⟩
          · apply w_l; (focus exact rfl); (focus exact rfl); (first | refine zL1 ?_ | refine zL2 ?_ | refine zL3 ?_ | refine zLp ?_)
            refine w_nil ?_
            refine wtt_fork3 ?_
            refine w_nil ?_
            refine ⟨?_, ?_, ?_⟩
            · apply w_l; (focus exact rfl); (focus exact rfl); (refine zAp (fun _ => ?_))
              refine w_nil ?_
              refine wtt_fork ?_
              refine w_nil ?_
              refine ⟨?_, ?_⟩
              · apply w_l; (focus exact rfl); (focus exact rfl); (first | refine zL1 ?_ | refine zL2 ?_ | refine zL3 ?_ | refine zLp ?_)
                refine w_nil ?_
                refine wtt_fin ?_
                refine gW ?_
                apply w_l; (focus exact rfl); (focus exact rfl); (first | refine zL1 ?_ | refine zL2 ?_ | refine zL3 ?_ | refine zLp ?_)
                refine gW ?_
                apply w_l; (focus exact rfl); (focus exact rfl); (refine zAp (fun _ => ?_))
                apply w_l; (focus exact rfl); (focus exact rfl); (refine zS ?_)
                refine gW ?_
                apply w_l; (focus exact rfl); (focus exact rfl); (refine zS ?_)
                refine w_nil ?_
                exact ⟨(_, _), x_wkd 6 trivial rfl (by repeat (first | exact ag_refl | refine ag_upd rfl ?_ | refine ag_at rfl rfl ?_))⟩
              · apply w_l; (focus exact rfl); (focus exact rfl); (first | refine zL1 ?_ | refine zL2 ?_ | refine zL3 ?_ | refine zLp ?_)
                refine w_nil ?_
                refine wtt_fin ?_
                refine gW ?_
                apply w_l; (focus exact rfl); (focus exact rfl); (first | refine zL1 ?_ | refine zL2 ?_ | refine zL3 ?_ | refine zLp ?_)
                refine gW ?_
                apply w_l; (focus exact rfl); (focus exact rfl); (refine zAp (fun _ => ?_))
                apply w_l; (focus exact rfl); (focus exact rfl); (refine zS ?_)
                refine gW ?_
                apply w_l; (focus exact rfl); (focus exact rfl); (refine zS ?_)
                refine w_nil ?_
                exact ⟨(_, _), x_wkd 6 trivial rfl (by repeat (first | exact ag_refl | refine ag_upd rfl ?_ | refine ag_at rfl rfl ?_))⟩
            · apply w_l; (focus exact rfl); (focus exact rfl); (first | refine zL1 ?_ | refine zL2 ?_ | refine zL3 ?_ | refine zLp ?_)
              refine w_nil ?_
              refine wtt_fork ?_
              refine w_nil ?_
              refine ⟨?_, ?_⟩
              · apply w_l; (focus exact rfl); (focus exact rfl); (refine zAp (fun _ => ?_))
                refine w_nil ?_
                refine wtt_fin ?_
                refine gW ?_
                apply w_l; (focus exact rfl); (focus exact rfl); (first | refine zL1 ?_ | refine zL2 ?_ | refine zL3 ?_ | refine zLp ?_)
                refine gW ?_
                apply w_l; (focus exact rfl); (focus exact rfl); (refine zAp (fun _ => ?_))
                apply w_l; (focus exact rfl); (focus exact rfl); (refine zS ?_)
                refine gW ?_
                apply w_l; (focus exact rfl); (focus exact rfl); (refine zS ?_)
                refine w_nil ?_
                exact ⟨(_, _), x_wkd 6 trivial rfl (by repeat (first | exact ag_refl | refine ag_upd rfl ?_ | refine ag_at rfl rfl ?_))⟩
              · apply w_l; (focus exact rfl); (focus exact rfl); (first | refine zL1 ?_ | refine zL2 ?_ | refine zL3 ?_ | refine zLp ?_)
                refine w_nil ?_
                refine wtt_fin ?_
                refine gW ?_
                apply w_l; (focus exact rfl); (focus exact rfl); (refine zAp (fun _ => ?_))
                refine gW ?_
                apply w_l; (focus exact rfl); (focus exact rfl); (refine zAp (fun _ => ?_))
                apply w_l; (focus exact rfl); (focus exact rfl); (refine zS ?_)
                refine gW ?_
                apply w_l; (focus exact rfl); (focus exact rfl); (refine zS ?_)
                refine w_nil ?_
                exact ⟨(_, _), x_wkd 6 trivial rfl (by repeat (first | exact ag_refl | refine ag_upd rfl ?_ | refine ag_at rfl rfl ?_))⟩
            · apply w_l; (focus exact rfl); (focus exact rfl); (first | refine zL1 ?_ | refine zL2 ?_ | refine zL3 ?_ | refine zLp ?_)
              refine w_nil ?_
              refine wtt_fork ?_
              refine gW ?_
              refine w_nil ?_
              refine ⟨?_, ?_⟩
              · apply w_l; (focus exact rfl); (focus exact rfl); (refine zAp (fun _ => ?_))
                refine w_nil ?_
                refine wtt_fin ?_
                apply w_l; (focus exact rfl); (focus exact rfl); (first | refine zL1 ?_ | refine zL2 ?_ | refine zL3 ?_ | refine zLp ?_)
                refine gW ?_
                apply w_l; (focus exact rfl); (focus exact rfl); (refine zAp (fun _ => ?_))
                apply w_l; (focus exact rfl); (focus exact rfl); (refine zS ?_)
                refine gW ?_
                apply w_l; (focus exact rfl); (focus exact rfl); (refine zS ?_)
                refine w_nil ?_
                exact ⟨(_, _), x_wkd 6 trivial rfl (by repeat (first | exact ag_refl | refine ag_upd rfl ?_ | refine ag_at rfl rfl ?_))⟩
              · apply w_l; (focus exact rfl); (focus exact rfl); (first | refine zL1 ?_ | refine zL2 ?_ | refine zL3 ?_ | refine zLp ?_)
                refine w_nil ?_
                refine wtt_fin ?_
                apply w_l; (focus exact rfl); (focus exact rfl); (refine zAp (fun _ => ?_))
                refine gW ?_
                apply w_l; (focus exact rfl); (focus exact rfl); (refine zAp (fun _ => ?_))
                apply w_l; (focus exact rfl); (focus exact rfl); (refine zS ?_)
                refine gW ?_
                apply w_l; (focus exact rfl); (focus exact rfl); (refine zS ?_)
                refine w_nil ?_
                exact ⟨(_, _), x_wkd 6 trivial rfl (by repeat (first | exact ag_refl | refine ag_upd rfl ?_ | refine ag_at rfl rfl ?_))⟩
          · apply w_l; (focus exact rfl); (focus exact rfl); (first | refine zL1 ?_ | refine zL2 ?_ | refine zL3 ?_ | refine zLp ?_)
            refine w_nil ?_
            refine wtt_fork ?_
            refine w_nil ?_
            refine ⟨?_, ?_⟩
            · apply w_l; (focus exact rfl); (focus exact rfl); (first | refine zL1 ?_ | refine zL2 ?_ | refine zL3 ?_ | refine zLp ?_)
              refine w_nil ?_
              refine wtt_fork ?_
              refine w_nil ?_
              refine ⟨?_, ?_⟩
              · apply w_l; (focus exact rfl); (focus exact rfl); (refine zAp (fun _ => ?_))
                refine w_nil ?_
                refine wtt_fin ?_
                refine gW ?_
                apply w_l; (focus exact rfl); (focus exact rfl); (first | refine zL1 ?_ | refine zL2 ?_ | refine zL3 ?_ | refine zLp ?_)
                refine gW ?_
                apply w_l; (focus exact rfl); (focus exact rfl); (refine zAp (fun _ => ?_))
                apply w_l; (focus exact rfl); (focus exact rfl); (refine zS ?_)
                refine gW ?_
                apply w_l; (focus exact rfl); (focus exact rfl); (refine zS ?_)
                refine w_nil ?_
                exact ⟨(_, _), x_wkd 6 trivial rfl (by repeat (first | exact ag_refl | refine ag_upd rfl ?_ | refine ag_at rfl rfl ?_))⟩
              · apply w_l; (focus exact rfl); (focus exact rfl); (first | refine zL1 ?_ | refine zL2 ?_ | refine zL3 ?_ | refine zLp ?_)
                refine w_nil ?_
                refine wtt_fin ?_
                refine gW ?_
                apply w_l; (focus exact rfl); (focus exact rfl); (refine zAp (fun _ => ?_))
                refine gW ?_
                apply w_l; (focus exact rfl); (focus exact rfl); (refine zAp (fun _ => ?_))
                apply w_l; (focus exact rfl); (focus exact rfl); (refine zS ?_)
                refine gW ?_
                apply w_l; (focus exact rfl); (focus exact rfl); (refine zS ?_)
                refine w_nil ?_
                exact ⟨(_, _), x_wkd 6 trivial rfl (by repeat (first | exact ag_refl | refine ag_upd rfl ?_ | refine ag_at rfl rfl ?_))⟩
            · apply w_l; (focus exact rfl); (focus exact rfl); (first | refine zL1 ?_ | refine zL2 ?_ | refine zL3 ?_ | refine zLp ?_)
              refine w_nil ?_
              refine wtt_fin ?_
              refine gW ?_
              apply w_l; (focus exact rfl); (focus exact rfl); (first | refine zL1 ?_ | refine zL2 ?_ | refine zL3 ?_ | refine zLp ?_)
              apply w_l; (focus exact rfl); (focus exact rfl); (refine zAp (fun _ => ?_))
              refine gW ?_
              apply w_l; (focus exact rfl); (focus exact rfl); (refine zAp (fun _ => ?_))
              apply w_l; (focus exact rfl); (focus exact rfl); (refine zS ?_)
              refine gW ?_
              apply w_l; (focus exact rfl); (focus exact rfl); (refine zS ?_)
              refine w_nil ?_
              exact ⟨(_, _), x_wkd 6 trivial rfl (by repeat (first | exact ag_refl | refine ag_upd rfl ?_ | refine ag_at rfl rfl ?_))⟩
          · apply w_l; (focus exact rfl); (focus exact rfl); (first | refine zL1 ?_ | refine zL2 ?_ | refine zL3 ?_ | refine zLp ?_)
            refine w_nil ?_
            refine wtt_fork ?_
            refine gW ?_
            refine w_nil ?_
            refine ⟨?_, ?_⟩
            · apply w_l; (focus exact rfl); (focus exact rfl); (first | refine zL1 ?_ | refine zL2 ?_ | refine zL3 ?_ | refine zLp ?_)
              refine w_nil ?_
              refine wtt_fork ?_
              refine w_nil ?_
              refine ⟨?_, ?_⟩
              · apply w_l; (focus exact rfl); (focus exact rfl); (refine zAp (fun _ => ?_))
                refine w_nil ?_
                refine wtt_fin ?_
                apply w_l; (focus exact rfl); (focus exact rfl); (first | refine zL1 ?_ | refine zL2 ?_ | refine zL3 ?_ | refine zLp ?_)
                refine gW ?_
                apply w_l; (focus exact rfl); (focus exact rfl); (refine zAp (fun _ => ?_))
                apply w_l; (focus exact rfl); (focus exact rfl); (refine zS ?_)
                refine gW ?_
                apply w_l; (focus exact rfl); (focus exact rfl); (refine zS ?_)
                refine w_nil ?_
                exact ⟨(_, _), x_wkd 6 trivial rfl (by repeat (first | exact ag_refl | refine ag_upd rfl ?_ | refine ag_at rfl rfl ?_))⟩
              · apply w_l; (focus exact rfl); (focus exact rfl); (first | refine zL1 ?_ | refine zL2 ?_ | refine zL3 ?_ | refine zLp ?_)
                refine w_nil ?_
                refine wtt_fin ?_
                apply w_l; (focus exact rfl); (focus exact rfl); (refine zAp (fun _ => ?_))
                refine gW ?_
                apply w_l; (focus exact rfl); (focus exact rfl); (refine zAp (fun _ => ?_))
                apply w_l; (focus exact rfl); (focus exact rfl); (refine zS ?_)
                refine gW ?_
                apply w_l; (focus exact rfl); (focus exact rfl); (refine zS ?_)
                refine w_nil ?_
                exact ⟨(_, _), x_wkd 6 trivial rfl (by repeat (first | exact ag_refl | refine ag_upd rfl ?_ | refine ag_at rfl rfl ?_))⟩
            · apply w_l; (focus exact rfl); (focus exact rfl); (first | refine zL1 ?_ | refine zL2 ?_ | refine zL3 ?_ | refine zLp ?_)
              refine w_nil ?_
              refine wtt_fin ?_
              apply w_l; (focus exact rfl); (focus exact rfl); (first | refine zL1 ?_ | refine zL2 ?_ | refine zL3 ?_ | refine zLp ?_)
              apply w_l; (focus exact rfl); (focus exact rfl); (refine zAp (fun _ => ?_))
              refine gW ?_
              apply w_l; (focus exact rfl); (focus exact rfl); (refine zAp (fun _ => ?_))
              apply w_l; (focus exact rfl); (focus exact rfl); (refine zS ?_)
              refine gW ?_
              apply w_l; (focus exact rfl); (focus exact rfl); (refine zS ?_)
              refine w_nil ?_
              exact ⟨(_, _), x_wkd 6 trivial rfl (by repeat (first | exact ag_refl | refine ag_upd rfl ?_ | refine ag_at rfl rfl ?_))⟩
        · apply w_l; (focus exact rfl); (focus exact rfl); (first | refine zL1 ?_ | refine zL2 ?_ | refine zL3 ?_ | refine zLp ?_)
          refine w_nil ?_
          refine wtt_fork3 ?_
          refine w_nil ?_
          refine ⟨?_, ?_, ?_⟩
          · apply w_l; (focus exact rfl); (focus exact rfl); (first | refine zL1 ?_ | refine zL2 ?_ | refine zL3 ?_ | refine zLp ?_)
            refine w_nil ?_
            refine wtt_fork ?_
            refine w_nil ?_
            refine ⟨?_, ?_⟩
            · apply w_l; (focus exact rfl); (focus exact rfl); (first | refine zL1 ?_ | refine zL2 ?_ | refine zL3 ?_ | refine zLp ?_)
              refine w_nil ?_
              refine wtt_fork ?_
              refine gW ?_
              refine w_nil ?_
              refine ⟨?_, ?_⟩
              · apply w_l; (focus exact rfl); (focus exact rfl); (refine zAp (fun _ => ?_))
                refine w_nil ?_
                refine wtt_fin ?_
                refine gW ?_
                apply w_l; (focus exact rfl); (focus exact rfl); (first | refine zL1 ?_ | refine zL2 ?_ | refine zL3 ?_ | refine zLp ?_)
                refine gW ?_
                apply w_l; (focus exact rfl); (focus exact rfl); (refine zAp (fun _ => ?_))
                apply w_l; (focus exact rfl); (focus exact rfl); (refine zS ?_)
                refine gW ?_
                apply w_l; (focus exact rfl); (focus exact rfl); (refine zS ?_)
                refine w_nil ?_
                exact ⟨(_, _), x_wkd 6 trivial rfl (by repeat (first | exact ag_refl | refine ag_upd rfl ?_ | refine ag_at rfl rfl ?_))⟩
              · apply w_l; (focus exact rfl); (focus exact rfl); (first | refine zL1 ?_ | refine zL2 ?_ | refine zL3 ?_ | refine zLp ?_)
                refine w_nil ?_
                refine wtt_fin ?_
                refine gW ?_
                apply w_l; (focus exact rfl); (focus exact rfl); (refine zAp (fun _ => ?_))
                refine gW ?_
                apply w_l; (focus exact rfl); (focus exact rfl); (refine zAp (fun _ => ?_))
                apply w_l; (focus exact rfl); (focus exact rfl); (refine zS ?_)
                refine gW ?_
                apply w_l; (focus exact rfl); (focus exact rfl); (refine zS ?_)
                refine w_nil ?_
                exact ⟨(_, _), x_wkd 6 trivial rfl (by repeat (first | exact ag_refl | refine ag_upd rfl ?_ | refine ag_at rfl rfl ?_))⟩
            · apply w_l; (focus exact rfl); (focus exact rfl); (first | refine zL1 ?_ | refine zL2 ?_ | refine zL3 ?_ | refine zLp ?_)
              refine w_nil ?_
              refine wtt_fin ?_
              refine gW ?_
              apply w_l; (focus exact rfl); (focus exact rfl); (first | refine zL1 ?_ | refine zL2 ?_ | refine zL3 ?_ | refine zLp ?_)
              refine gW ?_
              apply w_l; (focus exact rfl); (focus exact rfl); (refine zAp (fun _ => ?_))
              refine gW ?_
              apply w_l; (focus exact rfl); (focus exact rfl); (refine zAp (fun _ => ?_))
              apply w_l; (focus exact rfl); (focus exact rfl); (refine zS ?_)
              refine gW ?_
              apply w_l; (focus exact rfl); (focus exact rfl); (refine zS ?_)
              refine w_nil ?_
              exact ⟨(_, _), x_wkd 6 trivial rfl (by repeat (first | exact ag_refl | refine ag_upd rfl ?_ | refine ag_at rfl rfl ?_))⟩
          · apply w_l; (focus exact rfl); (focus exact rfl); (first | refine zL1 ?_ | refine zL2 ?_ | refine zL3 ?_ | refine zLp ?_)
            refine w_nil ?_
            refine wtt_fork ?_
            refine gW ?_
            refine w_nil ?_
            refine ⟨?_, ?_⟩
            · apply w_l; (focus exact rfl); (focus exact rfl); (first | refine zL1 ?_ | refine zL2 ?_ | refine zL3 ?_ | refine zLp ?_)
              refine w_nil ?_
              refine wtt_fork ?_
              refine w_nil ?_
              refine ⟨?_, ?_⟩
              · apply w_l; (focus exact rfl); (focus exact rfl); (refine zAp (fun _ => ?_))
                refine w_nil ?_
                refine wtt_fin ?_
                refine gW ?_
                apply w_l; (focus exact rfl); (focus exact rfl); (first | refine zL1 ?_ | refine zL2 ?_ | refine zL3 ?_ | refine zLp ?_)
                refine gW ?_
                apply w_l; (focus exact rfl); (focus exact rfl); (refine zAp (fun _ => ?_))
                apply w_l; (focus exact rfl); (focus exact rfl); (refine zS ?_)
                refine gW ?_
                apply w_l; (focus exact rfl); (focus exact rfl); (refine zS ?_)
                refine w_nil ?_
                exact ⟨(_, _), x_wkd 6 trivial rfl (by repeat (first | exact ag_refl | refine ag_upd rfl ?_ | refine ag_at rfl rfl ?_))⟩
              · apply w_l; (focus exact rfl); (focus exact rfl); (first | refine zL1 ?_ | refine zL2 ?_ | refine zL3 ?_ | refine zLp ?_)
                refine w_nil ?_
                refine wtt_fin ?_
                refine gW ?_
                apply w_l; (focus exact rfl); (focus exact rfl); (refine zAp (fun _ => ?_))
                refine gW ?_
                apply w_l; (focus exact rfl); (focus exact rfl); (refine zAp (fun _ => ?_))
                apply w_l; (focus exact rfl); (focus exact rfl); (refine zS ?_)
                refine gW ?_
                apply w_l; (focus exact rfl); (focus exact rfl); (refine zS ?_)
                refine w_nil ?_
                exact ⟨(_, _), x_wkd 6 trivial rfl (by repeat (first | exact ag_refl | refine ag_upd rfl ?_ | refine ag_at rfl rfl ?_))⟩
            · apply w_l; (focus exact rfl); (focus exact rfl); (first | refine zL1 ?_ | refine zL2 ?_ | refine zL3 ?_ | refine zLp ?_)
              refine w_nil ?_
              refine wtt_fin ?_
              refine gW ?_
              apply w_l; (focus exact rfl); (focus exact rfl); (first | refine zL1 ?_ | refine zL2 ?_ | refine zL3 ?_ | refine zLp ?_)
              apply w_l; (focus exact rfl); (focus exact rfl); (refine zAp (fun _ => ?_))
              refine gW ?_
              apply w_l; (focus exact rfl); (focus exact rfl); (refine zAp (fun _ => ?_))
              apply w_l; (focus exact rfl); (focus exact rfl); (refine zS ?_)
              refine gW ?_
              apply w_l; (focus exact rfl); (focus exact rfl); (refine zS ?_)
              refine w_nil ?_
              exact ⟨(_, _), x_wkd 6 trivial rfl (by repeat (first | exact ag_refl | refine ag_upd rfl ?_ | refine ag_at rfl rfl ?_))⟩
          · apply w_l; (focus exact rfl); (focus exact rfl); (first | refine zL1 ?_ | refine zL2 ?_ | refine zL3 ?_ | refine zLp ?_)
            refine w_nil ?_
            refine wtt_fork ?_
            refine gW ?_
            refine w_nil ?_
            refine ⟨?_, ?_⟩
            · apply w_l; (focus exact rfl); (focus exact rfl); (first | refine zL1 ?_ | refine zL2 ?_ | refine zL3 ?_ | refine zLp ?_)
              refine w_nil ?_
              refine wtt_fin ?_
              apply w_l; (focus exact rfl); (focus exact rfl); (first | refine zL1 ?_ | refine zL2 ?_ | refine zL3 ?_ | refine zLp ?_)
              refine gW ?_
              apply w_l; (focus exact rfl); (focus exact rfl); (refine zAp (fun _ => ?_))
              refine gW ?_
              apply w_l; (focus exact rfl); (focus exact rfl); (refine zAp (fun _ => ?_))
              apply w_l; (focus exact rfl); (focus exact rfl); (refine zS ?_)
              refine gW ?_
              apply w_l; (focus exact rfl); (focus exact rfl); (refine zS ?_)
              refine w_nil ?_
              exact ⟨(_, _), x_wkd 6 trivial rfl (by repeat (first | exact ag_refl | refine ag_upd rfl ?_ | refine ag_at rfl rfl ?_))⟩
            · apply w_l; (focus exact rfl); (focus exact rfl); (first | refine zL1 ?_ | refine zL2 ?_ | refine zL3 ?_ | refine zLp ?_)
              refine w_nil ?_
              refine wtt_fin ?_
              refine gW ?_
              apply w_l; (focus exact rfl); (focus exact rfl); (first | refine zL1 ?_ | refine zL2 ?_ | refine zL3 ?_ | refine zLp ?_)
              apply w_l; (focus exact rfl); (focus exact rfl); (refine zAp (fun _ => ?_))
              refine gW ?_
              apply w_l; (focus exact rfl); (focus exact rfl); (refine zAp (fun _ => ?_))
              apply w_l; (focus exact rfl); (focus exact rfl); (refine zS ?_)
              refine gW ?_
              apply w_l; (focus exact rfl); (focus exact rfl); (refine zS ?_)
              refine w_nil ?_
              exact ⟨(_, _), x_wkd 6 trivial rfl (by repeat (first | exact ag_refl | refine ag_upd rfl ?_ | refine ag_at rfl rfl ?_))⟩
        · apply w_l; (focus exact rfl); (focus exact rfl); (first | refine zL1 ?_ | refine zL2 ?_ | refine zL3 ?_ | refine zLp ?_)
          refine w_nil ?_
          refine wtt_fork3 ?_
          refine gW ?_
          refine w_nil ?_
          refine ⟨?_, ?_, ?_⟩
          · apply w_l; (focus exact rfl); (focus exact rfl); (first | refine zL1 ?_ | refine zL2 ?_ | refine zL3 ?_ | refine zLp ?_)
            refine w_nil ?_
            refine wtt_fork ?_
            refine w_nil ?_
            refine ⟨?_, ?_⟩
            · apply w_l; (focus exact rfl); (focus exact rfl); (first | refine zL1 ?_ | refine zL2 ?_ | refine zL3 ?_ | refine zLp ?_)
              refine w_nil ?_
              refine wtt_fork ?_
              refine gW ?_
              refine w_nil ?_
              refine ⟨?_, ?_⟩
              · apply w_l; (focus exact rfl); (focus exact rfl); (refine zAp (fun _ => ?_))
                refine w_nil ?_
                refine wtt_fin ?_
                apply w_l; (focus exact rfl); (focus exact rfl); (first | refine zL1 ?_ | refine zL2 ?_ | refine zL3 ?_ | refine zLp ?_)
                refine gW ?_
                apply w_l; (focus exact rfl); (focus exact rfl); (refine zAp (fun _ => ?_))
                apply w_l; (focus exact rfl); (focus exact rfl); (refine zS ?_)
                refine gW ?_
                apply w_l; (focus exact rfl); (focus exact rfl); (refine zS ?_)
                refine w_nil ?_
                exact ⟨(_, _), x_wkd 6 trivial rfl (by repeat (first | exact ag_refl | refine ag_upd rfl ?_ | refine ag_at rfl rfl ?_))⟩
              · apply w_l; (focus exact rfl); (focus exact rfl); (first | refine zL1 ?_ | refine zL2 ?_ | refine zL3 ?_ | refine zLp ?_)
                refine w_nil ?_
                refine wtt_fin ?_
                apply w_l; (focus exact rfl); (focus exact rfl); (refine zAp (fun _ => ?_))
                refine gW ?_
                apply w_l; (focus exact rfl); (focus exact rfl); (refine zAp (fun _ => ?_))
                apply w_l; (focus exact rfl); (focus exact rfl); (refine zS ?_)
                refine gW ?_
                apply w_l; (focus exact rfl); (focus exact rfl); (refine zS ?_)
                refine w_nil ?_
                exact ⟨(_, _), x_wkd 6 trivial rfl (by repeat (first | exact ag_refl | refine ag_upd rfl ?_ | refine ag_at rfl rfl ?_))⟩
            · apply w_l; (focus exact rfl); (focus exact rfl); (first | refine zL1 ?_ | refine zL2 ?_ | refine zL3 ?_ | refine zLp ?_)
              refine w_nil ?_
              refine wtt_fin ?_
              apply w_l; (focus exact rfl); (focus exact rfl); (first | refine zL1 ?_ | refine zL2 ?_ | refine zL3 ?_ | refine zLp ?_)
              refine gW ?_
              apply w_l; (focus exact rfl); (focus exact rfl); (refine zAp (fun _ => ?_))
              refine gW ?_
              apply w_l; (focus exact rfl); (focus exact rfl); (refine zAp (fun _ => ?_))
              apply w_l; (focus exact rfl); (focus exact rfl); (refine zS ?_)
              refine gW ?_
              apply w_l; (focus exact rfl); (focus exact rfl); (refine zS ?_)
              refine w_nil ?_
              exact ⟨(_, _), x_wkd 6 trivial rfl (by repeat (first | exact ag_refl | refine ag_upd rfl ?_ | refine ag_at rfl rfl ?_))⟩
          · apply w_l; (focus exact rfl); (focus exact rfl); (first | refine zL1 ?_ | refine zL2 ?_ | refine zL3 ?_ | refine zLp ?_)
            refine w_nil ?_
            refine wtt_fork ?_
            refine gW ?_
            refine w_nil ?_
            refine ⟨?_, ?_⟩
            · apply w_l; (focus exact rfl); (focus exact rfl); (first | refine zL1 ?_ | refine zL2 ?_ | refine zL3 ?_ | refine zLp ?_)
              refine w_nil ?_
              refine wtt_fork ?_
              refine w_nil ?_
              refine ⟨?_, ?_⟩
              · apply w_l; (focus exact rfl); (focus exact rfl); (refine zAp (fun _ => ?_))
                refine w_nil ?_
                refine wtt_fin ?_
                apply w_l; (focus exact rfl); (focus exact rfl); (first | refine zL1 ?_ | refine zL2 ?_ | refine zL3 ?_ | refine zLp ?_)
                refine gW ?_
                apply w_l; (focus exact rfl); (focus exact rfl); (refine zAp (fun _ => ?_))
                apply w_l; (focus exact rfl); (focus exact rfl); (refine zS ?_)
                refine gW ?_
                apply w_l; (focus exact rfl); (focus exact rfl); (refine zS ?_)
                refine w_nil ?_
                exact ⟨(_, _), x_wkd 6 trivial rfl (by repeat (first | exact ag_refl | refine ag_upd rfl ?_ | refine ag_at rfl rfl ?_))⟩
              · apply w_l; (focus exact rfl); (focus exact rfl); (first | refine zL1 ?_ | refine zL2 ?_ | refine zL3 ?_ | refine zLp ?_)
                refine w_nil ?_
                refine wtt_fin ?_
                apply w_l; (focus exact rfl); (focus exact rfl); (refine zAp (fun _ => ?_))
                refine gW ?_
                apply w_l; (focus exact rfl); (focus exact rfl); (refine zAp (fun _ => ?_))
                apply w_l; (focus exact rfl); (focus exact rfl); (refine zS ?_)
                refine gW ?_
                apply w_l; (focus exact rfl); (focus exact rfl); (refine zS ?_)
                refine w_nil ?_
                exact ⟨(_, _), x_wkd 6 trivial rfl (by repeat (first | exact ag_refl | refine ag_upd rfl ?_ | refine ag_at rfl rfl ?_))⟩
            · apply w_l; (focus exact rfl); (focus exact rfl); (first | refine zL1 ?_ | refine zL2 ?_ | refine zL3 ?_ | refine zLp ?_)
              refine w_nil ?_
              refine wtt_fin ?_
              apply w_l; (focus exact rfl); (focus exact rfl); (first | refine zL1 ?_ | refine zL2 ?_ | refine zL3 ?_ | refine zLp ?_)
              apply w_l; (focus exact rfl); (focus exact rfl); (refine zAp (fun _ => ?_))
              refine gW ?_
              apply w_l; (focus exact rfl); (focus exact rfl); (refine zAp (fun _ => ?_))
              apply w_l; (focus exact rfl); (focus exact rfl); (refine zS ?_)
              refine gW ?_
              apply w_l; (focus exact rfl); (focus exact rfl); (refine zS ?_)
              refine w_nil ?_
              exact ⟨(_, _), x_wkd 6 trivial rfl (by repeat (first | exact ag_refl | refine ag_upd rfl ?_ | refine ag_at rfl rfl ?_))⟩
          · apply w_l; (focus exact rfl); (focus exact rfl); (first | refine zL1 ?_ | refine zL2 ?_ | refine zL3 ?_ | refine zLp ?_)
            refine w_nil ?_
            refine wtt_fork ?_
            refine w_nil ?_
            refine ⟨?_, ?_⟩
            · apply w_l; (focus exact rfl); (focus exact rfl); (first | refine zL1 ?_ | refine zL2 ?_ | refine zL3 ?_ | refine zLp ?_)
              refine w_nil ?_
              refine wtt_fin ?_
              apply w_l; (focus exact rfl); (focus exact rfl); (first | refine zL1 ?_ | refine zL2 ?_ | refine zL3 ?_ | refine zLp ?_)
              refine gW ?_
              apply w_l; (focus exact rfl); (focus exact rfl); (refine zAp (fun _ => ?_))
              refine gW ?_
              apply w_l; (focus exact rfl); (focus exact rfl); (refine zAp (fun _ => ?_))
              apply w_l; (focus exact rfl); (focus exact rfl); (refine zS ?_)
              refine gW ?_
              apply w_l; (focus exact rfl); (focus exact rfl); (refine zS ?_)
              refine w_nil ?_
              exact ⟨(_, _), x_wkd 6 trivial rfl (by repeat (first | exact ag_refl | refine ag_upd rfl ?_ | refine ag_at rfl rfl ?_))⟩
            · apply w_l; (focus exact rfl); (focus exact rfl); (first | refine zL1 ?_ | refine zL2 ?_ | refine zL3 ?_ | refine zLp ?_)
              refine w_nil ?_
              refine wtt_fin ?_
              refine gW ?_
              apply w_l; (focus exact rfl); (focus exact rfl); (first | refine zL1 ?_ | refine zL2 ?_ | refine zL3 ?_ | refine zLp ?_)
              apply w_l; (focus exact rfl); (focus exact rfl); (refine zAp (fun _ => ?_))
              refine gW ?_
              apply w_l; (focus exact rfl); (focus exact rfl); (refine zAp (fun _ => ?_))
              apply w_l; (focus exact rfl); (focus exact rfl); (refine zS ?_)
              refine gW ?_
              apply w_l; (focus exact rfl); (focus exact rfl); (refine zS ?_)
              refine w_nil ?_
              exact ⟨(_, _), x_wkd 6 trivial rfl (by repeat (first | exact ag_refl | refine ag_upd rfl ?_ | refine ag_at rfl rfl ?_))⟩
      repeat (first | refine gG ?_ | refine zN1 (fun hlen => ?_) | refine zN2 (fun hlen => ?_) | refine zAl (fun _ => ?_) | refine zBx (fun _ => ?_) | refine zAp (fun _ => ?_))
      exact ⟨(r, vQ2, ns ++ [t], ts ++ [.mk k2 t2 l2], w.1, w.2), hin, qm_lt, x_wkd 4 ⟨rfl, trivial⟩ (by simp only [List.length_append, List.flatMap_append, Y.all_app]; rfl) (by repeat (first | exact ag_refl | refine ag_upd rfl ?_ | refine ag_at rfl rfl ?_))⟩
    have hjt : j < ts.length := by
      have := (List.getElem?_eq_some_iff.1 hp2).1
      have := h.len
      omega
    obtain ⟨x, hx⟩ := nth hjt
    have hmem := List.mem_of_getElem? hx
    have hzm : (t, x) ∈ ns.zip ts := List.mem_of_getElem? (by rw [List.getElem?_zip_eq_some]; exact ⟨hp2, hx⟩)
    have hmx := hmt x hmem
    have hat := Y.at hx
    have hsm := (Y.code x).iff (.mk k2 t2 l2)
    rw [hp1]
    have d0 : decide (((j : Nat) : Int) < 0) = false := decide_eq_false (by omega)
    by_cases hxy : x = .mk k2 t2 l2
    · have hin := fit_have h hpb (hxy ▸ hzm)
      have dm : decide (bs x.mark = bs (Y.mk k2 t2 l2).mark) = true := by rw [hxy]; simp
      clear h hmt hx hmem hzm hsm hp1 hp2 hxy
      generalize bs x.mark = m1 at *
      generalize bs (Y.mk k2 t2 l2).mark = m2 at *
      obtain ⟨kx, tx, lx⟩ := x
      repeat (first | refine gG ?_ | refine zN1 (fun hlen => ?_) | refine zN2 (fun hlen => ?_) | refine zAl (fun _ => ?_) | refine zBx (fun _ => ?_) | refine zAp (fun _ => ?_))
      refine ac_draw [1, 1, 1, 1, 1, 1, 1, 1, 1] [0, 1, 2, 3, 4, 5, 6, 7, 8] (by kernel_rfl) (by kernel_rfl) ?_
      refine gW ?_
      apply w_q; (focus exact rfl); (focus exact rfl); focus (intro _; (refine zIxo j hjt ?_); exact det_refl)
      apply w_q; (focus exact rfl); (focus exact rfl); focus (intro _; (refine zElo (ts := Y.ts (.mk kx tx lx)) hat rfl ?_); exact det_refl)
      apply w_q; (focus exact rfl); (focus exact rfl); focus (intro _; (refine zCall hmx ?_; rintro _ rfl); exact det_refl)
      refine gW ?_
      apply w_q; (focus exact rfl); (focus exact rfl); focus (intro _; (refine zCall hmy ?_; rintro _ rfl); exact det_refl)
      refine gW ?_
      refine w_nil ?_
      clear hmx hmy
      repeat (first | refine gG ?_ | refine zN1 (fun hlen => ?_) | refine zN2 (fun hlen => ?_) | refine zAl (fun _ => ?_) | refine zBx (fun _ => ?_) | refine zAp (fun _ => ?_))
      exact ⟨(r, vQ2, ns, ts, vN, vT), hin, qm_lt, x_wkd 4 ⟨rfl, trivial⟩ rfl (by repeat (first | exact ag_refl | refine ag_upd rfl ?_ | refine ag_at rfl rfl ?_))⟩
    · have hgf : g = false := bool_false h.good (good_clash ps hpb hzm hxy r)
      have dm : decide (bs x.mark = bs (Y.mk k2 t2 l2).mark) = false := decide_eq_false fun e => hxy ((same_iff x _).1 (by rw [hsm, decide_eq_true (bs_inj e)]))
      clear h hmt hx hmem hzm hsm hp1 hp2 hxy
      generalize bs x.mark = m1 at *
      generalize bs (Y.mk k2 t2 l2).mark = m2 at *
      obtain ⟨kx, tx, lx⟩ := x
      repeat (first | refine gG ?_ | refine zN1 (fun hlen => ?_) | refine zN2 (fun hlen => ?_) | refine zAl (fun _ => ?_) | refine zBx (fun _ => ?_) | refine zAp (fun _ => ?_))
      refine ac_draw [1, 1, 1, 1, 1, 1, 1, 1, 1] [0, 1, 2, 3, 4, 5, 6, 7, 8] (by kernel_rfl) (by kernel_rfl) ?_
      refine gW ?_
      apply w_q; (focus exact rfl); (focus exact rfl); focus (intro _; (refine zIxo j hjt ?_); exact det_refl)
      apply w_q; (focus exact rfl); (focus exact rfl); focus (intro _; (refine zElo (ts := Y.ts (.mk kx tx lx)) hat rfl ?_); exact det_refl)
      apply w_q; (focus exact rfl); (focus exact rfl); focus (intro _; (refine zCall hmx ?_; rintro _ rfl); exact det_refl)
      refine gW ?_
      apply w_q; (focus exact rfl); (focus exact rfl); focus (intro _; (refine zCall hmy ?_; rintro _ rfl); exact det_refl)
      refine gW ?_
      refine w_nil ?_
      clear hmx hmy
      repeat (first | refine gG ?_ | refine zN1 (fun hlen => ?_) | refine zN2 (fun hlen => ?_) | refine zAl (fun _ => ?_) | refine zBx (fun _ => ?_) | refine zAp (fun _ => ?_))
      first | refine zR ?_ | refine zQ ?_
      rw [hgf]; rfl
end Go.Proofs.YtllgibfmddihgaaDoor
