/-
  Texts of this proof, part 7: Tmj Tmk Ab31 Tnc Tnd Tnf Tng Tni Tnj Tnk Tnl Tno Ab32 Ab33.
-/
import Derived.Test.YtllgibfmddihgaaDoorQKindSays6
import Derived.Laws.StructEq
import Derived.Lib.AppendStr
import Derived.Lib.MinMax
namespace Go.Proofs.YtllgibfmddihgaaDoor
open Go.RowKit
mutual
def V.nodes : V → Nat
  | .mk _ _ _ l => 1 + V.nodesAll l
def V.nodesAll : List V → Nat
  | [] => 0
  | v :: r => v.nodes + V.nodesAll r
end
def V.kids : V → List V
  | .mk _ _ _ l => l
theorem V.nodesAll_app : ∀ l r : List V, V.nodesAll (l ++ r) = V.nodesAll l + V.nodesAll r
  | [], r => by simp [V.nodesAll]
  | v :: l, r => by rw [List.cons_append, V.nodesAll, V.nodesAll_app l r, V.nodesAll]; omega
theorem V.nodes_kids (v : V) : v.nodes = 1 + V.nodesAll v.kids := by cases v; rfl
theorem V.len_nodes : ∀ l : List V, l.length ≤ V.nodesAll l
  | [] => Nat.le_refl _
  | v :: l => by
    have := V.len_nodes l
    rw [List.length_cons, V.nodesAll, V.nodes_kids]
    omega
theorem V.at_kids {l : List V} {k : Nat} {v : V} (h : l[k]? = some v) : (V.all l)[k * 4 + 3]? = some (V.row v.kids) := by
  have h1 := congrArg (fun r : List T => r[3]?) (V.at h)
  obtain ⟨kv, nv, tv, lv⟩ := v
  simpa [List.getElem?_take, List.getElem?_drop, V.ts, V.kids, V.row] using h1
def Ar.pn (a : Ar) : Nat := a.pat.nodes
def Ex.count1 (x : Ex) : Nat := 1 + (x.arms.map Ar.pn).sum
def Ex.count (e : Ex) : Nat := (e.walk.map Ex.count1).sum
def Pr.count (p : Pr) : Nat := (p.bodies.map Ex.count).sum
theorem tsum_snoc {α : Type} (f : α → Nat) {l : List α} {k : Nat} {a : α} (h : l[k]? = some a) : ((l.take (k + 1)).map f).sum = ((l.take k).map f).sum + f a := by
  obtain ⟨h1, rfl⟩ := List.getElem?_eq_some_iff.1 h
  rw [List.take_succ_eq_append_getElem h1, List.map_append, List.sum_append]
  simp
theorem tsum_le {α : Type} (f : α → Nat) (l : List α) (k : Nat) : ((l.take k).map f).sum ≤ (l.map f).sum := by
  have := congrArg (fun r => (List.map f r).sum) (List.take_append_drop k l)
  simp only [List.map_append, List.sum_append] at this
  omega
theorem Ex.walk_count (e : Ex) : e.walk.length ≤ e.count := by
  have h : ∀ l : List Ex, l.length ≤ (l.map Ex.count1).sum := by
    intro l
    induction l with
    | nil => exact Nat.le_refl _
    | cons a l ih => rw [List.length_cons, List.map_cons, List.sum_cons, Ex.count1]; omega
  exact h e.walk
set_option maxRecDepth 100000 in
set_option maxHeartbeats 4000000 in
theorem pats_af (p : V) (hp : p.nodes ≤ 1048576) : AF Tryd.prog 134 [p.t] (fun r => ∃ O : List V, O.length = p.nodes ∧ r = V.row O) := by
  obtain ⟨n, hn⟩ : ∃ n, n = p.nodes := ⟨_, rfl⟩
  rw [← hn] at hp ⊢
  obtain ⟨k0, n0, t0, l0⟩ := p
  refine af_enter tok Tryd.func134 Tryd.ntmps134 Tryd.results134 rfl (by kernel_rfl) rfl rfl fun F hX => ?_
  repeat (first | refine gX ?_ | refine zN1 (fun hlen => ?_) | refine zN2 (fun hlen => ?_) | refine zBf ?_ | refine zAp (fun _ => ?_))
  refine zBo (fun v0 => ?_)
  repeat (first | refine gG ?_ | refine zN1 (fun hlen => ?_) | refine zN2 (fun hlen => ?_) | refine zBx (fun _ => ?_) | refine zAp (fun _ => ?_))
  refine x_loop [3, 4, 7, 8, 9, 10, 11, 12, 13, 14, 15, 16, 17, 18, 19] (fun y : List V × Nat × Value => [(3, .own 0 y.2.2), (4, .c (.lit (.int .i64 (y.2.1 : Nat))))]) (fun y => [.row y.2.2 109 4 y.1.length (V.all y.1)])
    (fun y => y.2.1 ≤ y.1.length ∧ y.2.1 + V.nodesAll (y.1.drop y.2.1) = n) (fun y => n - y.2.1) ([.mk k0 n0 t0 l0], 0, v0) ⟨Nat.zero_le _, by simp only [List.drop_zero, V.nodesAll]; omega⟩ ⟨rfl, rfl, trivial⟩ rfl ?_
  rintro ⟨O, i, v⟩ ⟨hi, hI⟩
  dsimp only at hi hI ⊢
  repeat (first | refine gG ?_ | refine zN1 (fun hlen => ?_) | refine zN2 (fun hlen => ?_) | refine zBx (fun _ => ?_) | refine zAp (fun _ => ?_))
  refine x_cond rfl (fun h => ?_) (fun h => ?_)
  · have hi' : i < O.length := by simpa using h
    obtain ⟨a, ha⟩ := nth hi'
    have hd : O.drop i = a :: O.drop (i + 1) := by
      obtain ⟨h1, rfl⟩ := List.getElem?_eq_some_iff.1 ha
      exact List.drop_eq_getElem_cons h1
    have h1 := V.nodes_kids a
    have h2 := V.len_nodes a.kids
    have h3 := V.len_nodes (O.drop (i + 1))
    rw [List.length_drop] at h3
    rw [hd, V.nodesAll] at hI
    have hnew : (i + 1) + V.nodesAll ((O ++ a.kids).drop (i + 1)) = n := by
      rw [List.drop_append_of_le_length (by omega), V.nodesAll_app]
      omega
    have htl : O.length + a.kids.length ≤ 1048576 := by omega
    have hk := V.at_kids ha
    clear h
    repeat (first | refine gG ?_ | refine zN1 (fun hlen => ?_) | refine zN2 (fun hlen => ?_) | refine zBx (fun _ => ?_) | refine zAp (fun _ => ?_))
    refine zIxo i hi' ?_
    repeat (first | refine gG ?_ | refine zN1 (fun hlen => ?_) | refine zN2 (fun hlen => ?_) | refine zBx (fun _ => ?_) | refine zAp (fun _ => ?_))
    refine zElo1 hk ?_
    generalize a.kids = l at *
    repeat (first | refine gG ?_ | refine zN1 (fun hlen => ?_) | refine zN2 (fun hlen => ?_) | refine zBx (fun _ => ?_) | refine zAp (fun _ => ?_))
    exact ⟨(O ++ l, i + 1, _), ⟨by simp only [List.length_append]; omega, hnew⟩, by simp only; omega, x_wkd 1 ⟨rfl, rfl, trivial⟩ (by simp only [List.length_append, V.all_app']; rfl) (by repeat (first | exact ag_refl | refine ag_upd rfl ?_ | refine ag_at rfl rfl ?_))⟩
  · have hi' : i = O.length := by
      have : ¬ i < O.length := by simpa using h
      omega
    subst hi'
    rw [List.drop_length, V.nodesAll, Nat.add_zero] at hI
    clear h
    repeat (first | refine gG ?_ | refine zN1 (fun hlen => ?_) | refine zN2 (fun hlen => ?_) | refine zBx (fun _ => ?_) | refine zAp (fun _ => ?_))
    first | refine zR ?_ | refine zQ ?_
    exact ⟨O, hI, rfl⟩
set_option maxRecDepth 100000 in
set_option maxHeartbeats 4000000 in
theorem sizeOf_af (e : Ex) (he : e.count ≤ 1048576) : AF Tryd.prog 50 [e.t] (· = .lit (.int .i64 (e.count : Nat))) := by
  have hc := all_af e (Nat.le_trans e.walk_count he)
  unfold Ex.count at he ⊢
  generalize e.walk = W at *
  obtain ⟨k0, n0, t0, ns0, ys0, l0, rs0, p0⟩ := e
  refine af_enter tok Tryd.func50 Tryd.ntmps50 Tryd.results50 rfl (by kernel_rfl) rfl rfl fun F hX => ?_
  repeat (first | refine gG ?_ | refine zN1 (fun hlen => ?_) | refine zN2 (fun hlen => ?_) | refine zAl (fun _ => ?_) | refine zBf ?_)
  refine zCall (hc) ?_
  rintro _ rfl
  repeat (first | refine gG ?_ | refine zN1 (fun hlen => ?_) | refine zN2 (fun hlen => ?_) | refine zAl (fun _ => ?_) | refine zBx (fun _ => ?_))
  refine x_drop 0 rfl ?_
  refine x_loop [3, 5, 7, 11, 12, 13, 14, 15, 16, 17, 18, 19, 20, 21, 22, 23, 24, 25, 26, 27, 28, 29, 30, 31] (fun k : Nat => [(11, .c (.lit (.int .i64 (k : Nat)))), (3, .c (.lit (.int .i64 ((((W.take k).map Ex.count1).sum : Nat) : Int))))]) (fun _ => []) (fun k => k ≤ W.length) (fun k => W.length - k) 0 (Nat.zero_le _) ⟨rfl, rfl, trivial⟩ rfl ?_
  intro k hk
  repeat (first | refine gG ?_ | refine zN1 (fun hlen => ?_) | refine zN2 (fun hlen => ?_) | refine zAl (fun _ => ?_) | refine zBx (fun _ => ?_))
  refine x_cond rfl (fun h => ?_) (fun h => ?_)
  · have hk' : k < W.length := by simpa using h
    obtain ⟨x, hx⟩ := nth hk'
    have hs1 := tsum_snoc Ex.count1 hx
    have hs2 := tsum_le Ex.count1 W (k + 1)
    have hs3 : x.count1 = 1 + (x.arms.map Ar.pn).sum := rfl
    clear h
    repeat (first | refine gG ?_ | refine zN1 (fun hlen => ?_) | refine zN2 (fun hlen => ?_) | refine zAl (fun _ => ?_) | refine zBx (fun _ => ?_))
    refine zIx (k) (hk') ?_
    repeat (first | refine gG ?_ | refine zN1 (fun hlen => ?_) | refine zN2 (fun hlen => ?_) | refine zAl (fun _ => ?_) | refine zBx (fun _ => ?_))
    refine zEl (Ex.at hx) (Ex.ts_len x) ?_
    generalize x.count1 = cx at *
    obtain ⟨kx, nx, tx, nsx, ysx, lx, rsx, px⟩ := x
    dsimp only [Ex.arms] at hs3
    generalize ((W.take k).map Ex.count1).sum = acc at *
    generalize hacc' : ((W.take (k + 1)).map Ex.count1).sum = acc' at *
    repeat (first | refine gG ?_ | refine zN1 (fun hlen => ?_) | refine zN2 (fun hlen => ?_) | refine zAl (fun _ => ?_) | refine zBx (fun _ => ?_))
    refine x_drop 0 rfl ?_
    refine x_loop [3, 7, 20, 21, 22, 23, 24, 25, 26, 27, 28, 29, 30] (fun j : Nat => [(20, .c (.lit (.int .i64 (j : Nat)))), (3, .c (.lit (.int .i64 ((acc + 1 + ((rsx.take j).map Ar.pn).sum : Nat) : Int))))]) (fun _ => []) (fun j => j ≤ rsx.length) (fun j => rsx.length - j) 0 (Nat.zero_le _) ⟨rfl, by simp only [List.take_zero, List.map_nil, List.sum_nil, Nat.add_zero]; rfl, trivial⟩ rfl ?_
    intro j hj
    repeat (first | refine gG ?_ | refine zN1 (fun hlen => ?_) | refine zN2 (fun hlen => ?_) | refine zAl (fun _ => ?_) | refine zBx (fun _ => ?_))
    refine x_cond rfl (fun h => ?_) (fun h => ?_)
    · have hj' : j < rsx.length := by simpa using h
      obtain ⟨r, hr⟩ := nth hj'
      have ht1 := tsum_snoc Ar.pn hr
      have ht2 := tsum_le Ar.pn rsx (j + 1)
      rw [show Ar.pn r = r.pat.nodes from rfl] at ht1
      have hpc := pats_af r.pat (by omega)
      generalize r.pat.nodes = pn at *
      clear h
      repeat (first | refine gG ?_ | refine zN1 (fun hlen => ?_) | refine zN2 (fun hlen => ?_) | refine zAl (fun _ => ?_) | refine zBx (fun _ => ?_))
      refine zIx (j) (hj') ?_
      repeat (first | refine gG ?_ | refine zN1 (fun hlen => ?_) | refine zN2 (fun hlen => ?_) | refine zAl (fun _ => ?_) | refine zBx (fun _ => ?_))
      refine zEl (Ar.at hr) (Ar.ts_len r) ?_
      obtain ⟨⟨kp, np, tp, lp⟩, ⟨kb, nb, tb, nsb, ysb, lb, rsb, pb⟩⟩ := r
      dsimp only [Ar.pat] at hpc
      repeat (first | refine gG ?_ | refine zN1 (fun hlen => ?_) | refine zN2 (fun hlen => ?_) | refine zAl (fun _ => ?_) | refine zBx (fun _ => ?_))
      refine zCall (hpc) ?_
      rintro _ ⟨O, hO, rfl⟩
      repeat (first | refine gG ?_ | refine zN1 (fun hlen => ?_) | refine zN2 (fun hlen => ?_) | refine zAl (fun _ => ?_) | refine zBx (fun _ => ?_))
      refine lo_add rfl rfl (r := ((acc + 1 + ((rsx.take j).map Ar.pn).sum + pn : Nat) : Int)) (by rw [hO, IntWalk.i64_in _ (by omega)]; omega) ?_
      repeat (first | refine gG ?_ | refine zN1 (fun hlen => ?_) | refine zN2 (fun hlen => ?_) | refine zAl (fun _ => ?_) | refine zBx (fun _ => ?_))
      exact ⟨j + 1, hj', by omega, x_wkd 0 ⟨rfl, by rw [ht1, ← Nat.add_assoc]; rfl, trivial⟩ rfl (by repeat (first | exact ag_refl | refine ag_upd rfl ?_ | refine ag_at rfl rfl ?_))⟩
    · have hj' : j = rsx.length := by
        have : ¬ j < rsx.length := by simpa using h
        omega
      subst hj'
      clear h
      rw [List.take_length]
      repeat (first | refine gG ?_ | refine zN1 (fun hlen => ?_) | refine zN2 (fun hlen => ?_) | refine zAl (fun _ => ?_) | refine zBx (fun _ => ?_))
      exact ⟨k + 1, hk', by omega, x_wkd 0 ⟨rfl, by rw [hacc', hs1, hs3, ← Nat.add_assoc]; rfl, trivial⟩ rfl (by repeat (first | exact ag_refl | refine ag_upd rfl ?_ | refine ag_at rfl rfl ?_))⟩
  · have hk' : k = W.length := by
      have : ¬ k < W.length := by simpa using h
      omega
    subst hk'
    clear h
    rw [List.take_length]
    repeat (first | refine gG ?_ | refine zN1 (fun hlen => ?_) | refine zN2 (fun hlen => ?_) | refine zAl (fun _ => ?_) | refine zBx (fun _ => ?_))
    first | refine zR ?_ | refine zQ ?_
    rfl
set_option maxRecDepth 100000 in
set_option maxHeartbeats 4000000 in
theorem small_af (p : Pr) (hp : p.count ≤ 1048576) (hl : p.bodies.length ≤ 1048576) : AF Tryd.prog 9 [p.t] (· = .lit (.bool (decide ((p.count : Int) ≤ 400)))) := by
  have hc := bodiesOf_af p hl
  unfold Pr.count at hp ⊢
  generalize p.bodies = W at *
  obtain ⟨nm, vr, us, ds, trs, ims, fus, acs⟩ := p
  refine af_enter tok Tryd.func9 Tryd.ntmps9 Tryd.results9 rfl (by kernel_rfl) rfl rfl fun F hX => ?_
  repeat (first | refine gG ?_ | refine zN1 (fun hlen => ?_) | refine zN2 (fun hlen => ?_) | refine zAl (fun _ => ?_) | refine zBf ?_)
  refine zCall (hc) ?_
  rintro _ rfl
  repeat (first | refine gG ?_ | refine zN1 (fun hlen => ?_) | refine zN2 (fun hlen => ?_) | refine zAl (fun _ => ?_) | refine zBx (fun _ => ?_))
  refine x_drop 0 rfl ?_
  refine x_loop [3, 5, 9, 10, 11, 12, 13, 14, 15, 16, 17] (fun k : Nat => [(9, .c (.lit (.int .i64 (k : Nat)))), (3, .c (.lit (.int .i64 ((((W.take k).map Ex.count).sum : Nat) : Int))))]) (fun _ => []) (fun k => k ≤ W.length) (fun k => W.length - k) 0 (Nat.zero_le _) ⟨rfl, rfl, trivial⟩ rfl ?_
  intro k hk
  repeat (first | refine gG ?_ | refine zN1 (fun hlen => ?_) | refine zN2 (fun hlen => ?_) | refine zAl (fun _ => ?_) | refine zBx (fun _ => ?_))
  refine x_cond rfl (fun h => ?_) (fun h => ?_)
  · have hk' : k < W.length := by simpa using h
    obtain ⟨x, hx⟩ := nth hk'
    have hs1 := tsum_snoc Ex.count hx
    have hs2 := tsum_le Ex.count W (k + 1)
    have hsc := sizeOf_af x (by omega)
    clear h
    repeat (first | refine gG ?_ | refine zN1 (fun hlen => ?_) | refine zN2 (fun hlen => ?_) | refine zAl (fun _ => ?_) | refine zBx (fun _ => ?_))
    refine zIx (k) (hk') ?_
    repeat (first | refine gG ?_ | refine zN1 (fun hlen => ?_) | refine zN2 (fun hlen => ?_) | refine zAl (fun _ => ?_) | refine zBx (fun _ => ?_))
    refine zEl (Ex.at hx) (Ex.ts_len x) ?_
    generalize x.count = cx at *
    obtain ⟨kx, nx, tx, nsx, ysx, lx, rsx, px⟩ := x
    repeat (first | refine gG ?_ | refine zN1 (fun hlen => ?_) | refine zN2 (fun hlen => ?_) | refine zAl (fun _ => ?_) | refine zBx (fun _ => ?_))
    refine zCall (hsc) ?_
    rintro _ rfl
    repeat (first | refine gG ?_ | refine zN1 (fun hlen => ?_) | refine zN2 (fun hlen => ?_) | refine zAl (fun _ => ?_) | refine zBx (fun _ => ?_))
    refine lo_add rfl rfl (r := ((((W.take k).map Ex.count).sum + cx : Nat) : Int)) (by rw [IntWalk.i64_in _ (by omega)]; omega) ?_
    repeat (first | refine gG ?_ | refine zN1 (fun hlen => ?_) | refine zN2 (fun hlen => ?_) | refine zAl (fun _ => ?_) | refine zBx (fun _ => ?_))
    exact ⟨k + 1, hk', by omega, x_wkd 0 ⟨rfl, by rw [hs1]; rfl, trivial⟩ rfl (by repeat (first | exact ag_refl | refine ag_upd rfl ?_ | refine ag_at rfl rfl ?_))⟩
  · have hk' : k = W.length := by
      have : ¬ k < W.length := by simpa using h
      omega
    subst hk'
    clear h
    rw [List.take_length]
    repeat (first | refine gG ?_ | refine zN1 (fun hlen => ?_) | refine zN2 (fun hlen => ?_) | refine zAl (fun _ => ?_) | refine zBx (fun _ => ?_))
    first | refine zR ?_ | refine zQ ?_
    rfl
end Go.Proofs.YtllgibfmddihgaaDoor
namespace Go.Proofs.YtllgibfmddihgaaDoor
open Go.RowKit
theorem dec_le : ∀ (n u : Nat), u < 10 ^ (n + 1) → (Lib.decDigits u).length ≤ n + 1
  | 0, u, h => by rw [Lib.decDigits, dif_pos (by simpa using h)]; exact Nat.le_refl _
  | n + 1, u, h => by
    rw [Lib.decDigits]
    split
    · simp
    · have := dec_le n (u / 10) (by rw [Nat.pow_succ] at h; omega)
      rw [List.length_append]
      simp only [List.length_cons, List.length_nil]
      omega
theorem numB_le {n : Int} (h : inI n) : (numB n).length ≤ 21 := by
  obtain ⟨h1, h2⟩ := h
  have key : ∀ u : Nat, u ≤ 9223372036854775808 → (Lib.decDigits u).length ≤ 19 := fun u hu => dec_le 18 u (by omega)
  unfold numB Lib.itoa
  rw [List.length_append]
  split
  · rw [List.length_cons]
    have := key n.natAbs (by omega)
    simp only [List.length_cons, List.length_nil]
    first | omega | (have := key (-n).toNat (by omega); omega)
  · have := key n.natAbs (by omega)
    simp only [List.length_cons, List.length_nil]
    first | omega | (have := key n.toNat (by omega); omega)
theorem numB_far {n : Int} (h : far n ≤ 1048576) : (numB n).length ≤ 21 * far n := by
  have := numB_le (far_in h)
  have := far_pos n
  omega
theorem numB_nat {n : Nat} (h : n ≤ 1048576) : (numB (n : Int)).length ≤ 21 := numB_le (inI_nat (by omega))
theorem textB_le {s : ByteArray} (h : s.size ≤ 1048576) : (textB s).length ≤ 21 * (s.size + 1) := by
  have h1 := numB_nat h
  have h2 : s.data.toList.length = s.size := rfl
  rw [textB, List.length_append]
  omega
theorem flat21 {α : Type} (f : α → List UInt8) (μ : α → Nat) : ∀ l : List α, (∀ a ∈ l, (f a).length ≤ 21 * μ a) → (l.flatMap f).length ≤ 21 * (l.map μ).sum
  | [], _ => Nat.le_refl _
  | a :: l, h => by
    have h1 := h a (by simp)
    have h2 := flat21 f μ l (fun x hx => h x (List.mem_cons_of_mem _ hx))
    rw [List.flatMap_cons, List.length_append, List.map_cons, List.sum_cons]
    omega
theorem textsB_le {l : List ByteArray} (h : strSize l ≤ 1048576) : (textsB l).length ≤ 21 * strSize l :=
  flat21 textB (fun s => s.size + 1) l fun a ha => textB_le (by have := sum_mem' (fun s : ByteArray => s.size + 1) ha; unfold strSize at h; omega)
theorem namesB_le {l : List ByteArray} (h : strSize l ≤ 1048576) : (namesB l).length ≤ 21 * (strSize l + 1) := by
  have h1 := textsB_le h
  have h2 := numB_nat (Nat.le_trans (strSize_len l) h)
  rw [namesB, List.length_append]
  omega
theorem Y.mass_pos (v : Y) : 1 ≤ v.mass := by cases v; rename_i k _ _; have := far_pos k; simp only [Y.mass]; omega
theorem V.mass_pos (v : V) : 1 ≤ v.mass := by cases v; rename_i k _ _ _; have := far_pos k; simp only [V.mass]; omega
theorem Ex.mass_pos (v : Ex) : 1 ≤ v.mass := by cases v; rename_i k _ _ _ _ _ _ _; have := far_pos k; simp only [Ex.mass]; omega
theorem Ar.mass_pos (v : Ar) : 1 ≤ v.mass := by cases v; rename_i p _; have := V.mass_pos p; simp only [Ar.mass]; omega
theorem Y.mark_le (v : Y) : v.mass ≤ 1048576 → v.mark.length ≤ 21 * v.mass := by
  induction v using Y.ind with
  | h k n l ih =>
    intro h
    simp only [Y.mass, Y.masses_sum] at h ⊢
    have h1 := flat21 Y.mark Y.mass l (fun x hx => ih x hx (by have := sum_mem' Y.mass hx; omega))
    have h2 := numB_nat (n := l.length) (by have := len_sum' Y.mass Y.mass_pos l; omega)
    have h3 := numB_far (n := k) (by omega)
    have h4 := textB_le (s := n) (by omega)
    simp only [Y.mark, Y.marks_eq, List.length_append]
    omega
theorem V.mark_le (v : V) : v.mass ≤ 1048576 → v.mark.length ≤ 21 * v.mass := by
  induction v using V.ind with
  | h k n t l ih =>
    intro h
    simp only [V.mass, V.masses_sum] at h ⊢
    have h1 := flat21 V.mark V.mass l (fun x hx => ih x hx (by have := sum_mem' V.mass hx; omega))
    have h2 := numB_nat (n := l.length) (by have := len_sum' V.mass V.mass_pos l; omega)
    have h3 := numB_far (n := k) (by omega)
    have h5 := numB_far (n := n) (by omega)
    have h4 := textB_le (s := t) (by omega)
    simp only [V.mark, V.marks_eq, List.length_append]
    omega
theorem Ex.mark_le (v : Ex) : v.mass ≤ 1048576 → v.mark.length ≤ 21 * v.mass := by
  induction v using Ex.ind with
  | h k n t ns ys l rs a ih1 ih2 =>
    intro h
    simp only [Ex.mass, Ex.masses_sum, Ar.masses_sum, Y.masses_sum] at h ⊢
    have h1 := numB_far (n := k) (by omega)
    have h2 := numB_far (n := n) (by omega)
    have h3 := textB_le (s := t) (by omega)
    have h4 := textsB_le (l := ns) (by omega)
    have h5 := flat21 Y.mark Y.mass ys (fun x hx => Y.mark_le x (by have := sum_mem' Y.mass hx; omega))
    have h6 := flat21 Ex.mark Ex.mass l (fun x hx => ih1 x hx (by have := sum_mem' Ex.mass hx; omega))
    have h7 := flat21 Ar.mark Ar.mass rs (fun x hx => by
      have h2 := sum_mem' Ar.mass hx
      obtain ⟨p, b⟩ := x
      simp only [Ar.mass] at h2
      have h8 := p.mark_le (by omega)
      have h9 := ih2 _ hx p b rfl (by omega)
      simp only [Ar.mark, Ar.mass, List.length_append]
      omega)
    have g1 := numB_nat (n := ns.length) (by have := strSize_len ns; omega)
    have g2 := numB_nat (n := ys.length) (by have := len_sum' Y.mass Y.mass_pos ys; omega)
    have g3 := numB_nat (n := l.length) (by have := len_sum' Ex.mass Ex.mass_pos l; omega)
    have g4 := numB_nat (n := rs.length) (by have := len_sum' Ar.mass Ar.mass_pos rs; omega)
    simp only [Ex.mark, Ex.marks_eq, Ar.marks_eq, List.length_append]
    omega
theorem typesB_le {l : List Y} (h : (l.map Y.mass).sum ≤ 1048576) : (typesB l).length ≤ 21 * ((l.map Y.mass).sum + 1) := by
  have h1 := flat21 Y.mark Y.mass l (fun x hx => Y.mark_le x (by have := sum_mem' Y.mass hx; omega))
  have h2 := numB_nat (n := l.length) (by have := len_sum' Y.mass Y.mass_pos l; omega)
  rw [typesB, List.length_append]
  omega
theorem Us.mass_pos (v : Us) : 1 ≤ v.mass := by unfold Us.mass; omega
theorem Mk.mass_pos (v : Mk) : 1 ≤ v.mass := by unfold Mk.mass; omega
theorem Da.mass_pos (v : Da) : 1 ≤ v.mass := by unfold Da.mass; omega
theorem Fu.mass_pos (v : Fu) : 1 ≤ v.mass := by unfold Fu.mass; omega
theorem Tr.mass_pos (v : Tr) : 1 ≤ v.mass := by unfold Tr.mass; omega
theorem Im.mass_pos (v : Im) : 1 ≤ v.mass := by unfold Im.mass; omega
theorem Ac.mass_pos (v : Ac) : 1 ≤ v.mass := by unfold Ac.mass; omega
theorem Us.mark_le (v : Us) (h : v.mass ≤ 1048576) : v.mark.length ≤ 21 * v.mass := by
  unfold Us.mass at h ⊢
  have h1 := textB_le (s := v.name) (by omega)
  have h2 := numB_far (n := v.low) (by omega)
  have h3 := numB_far (n := v.high) (by omega)
  simp only [Us.mark, List.length_append]
  omega
theorem Mk.mark_le (v : Mk) (h : v.mass ≤ 1048576) : v.mark.length ≤ 21 * v.mass := by
  unfold Mk.mass at h ⊢
  have h1 := textB_le (s := v.name) (by omega)
  have h2 := typesB_le (l := v.args) (by omega)
  simp only [Mk.mark, List.length_append]
  omega
theorem Da.mark_le (v : Da) (h : v.mass ≤ 1048576) : v.mark.length ≤ 21 * v.mass := by
  unfold Da.mass at h ⊢
  have h1 := textB_le (s := v.name) (by omega)
  have h2 := namesB_le (l := v.params) (by omega)
  have h3 := flat21 Mk.mark Mk.mass v.makes (fun x hx => Mk.mark_le x (by have := sum_mem' Mk.mass hx; omega))
  have h4 := numB_nat (n := v.makes.length) (by have := len_sum' Mk.mass Mk.mass_pos v.makes; omega)
  simp only [Da.mark, List.length_append]
  omega
theorem Fu.mark_le (v : Fu) (h : v.mass ≤ 1048576) : v.mark.length ≤ 21 * v.mass := by
  unfold Fu.mass at h ⊢
  have h1 := textB_le (s := v.name) (by omega)
  have h2 := namesB_le (l := v.params) (by omega)
  have h3 := namesB_le (l := v.names) (by omega)
  have h4 := typesB_le (l := v.types) (by omega)
  have h5 := v.out.mark_le (by omega)
  have h6 := v.body.mark_le (by omega)
  simp only [Fu.mark, List.length_append]
  omega
theorem funcsB_le {l : List Fu} (h : (l.map Fu.mass).sum ≤ 1048576) : (funcsB l).length ≤ 21 * ((l.map Fu.mass).sum + 1) := by
  have h1 := flat21 Fu.mark Fu.mass l (fun x hx => Fu.mark_le x (by have := sum_mem' Fu.mass hx; omega))
  have h2 := numB_nat (n := l.length) (by have := len_sum' Fu.mass Fu.mass_pos l; omega)
  rw [funcsB, List.length_append]
  omega
theorem Tr.mark_le (v : Tr) (h : v.mass ≤ 1048576) : v.mark.length ≤ 21 * v.mass := by
  unfold Tr.mass at h ⊢
  have h1 := textB_le (s := v.name) (by omega)
  have h2 := funcsB_le (l := v.funcs) (by omega)
  simp only [Tr.mark, List.length_append]
  omega
theorem Im.mark_le (v : Im) (h : v.mass ≤ 1048576) : v.mark.length ≤ 21 * v.mass := by
  unfold Im.mass at h ⊢
  have h1 := textB_le (s := v.trait) (by omega)
  have h3 := textB_le (s := v.dat) (by omega)
  have h2 := funcsB_le (l := v.funcs) (by omega)
  simp only [Im.mark, List.length_append]
  omega
theorem Ac.mark_le (v : Ac) (h : v.mass ≤ 1048576) : v.mark.length ≤ 21 * v.mass := by
  unfold Ac.mass at h ⊢
  have h1 := textB_le (s := v.name) (by omega)
  have h3 := namesB_le (l := v.names) (by omega)
  have h4 := typesB_le (l := v.types) (by omega)
  have h5 := v.msg.mark_le (by omega)
  have h6 := v.body.mark_le (by omega)
  simp only [Ac.mark, List.length_append]
  omega
theorem Pr.mark_le (v : Pr) (h : v.mass ≤ 1048576) : v.mark.length ≤ 21 * v.mass := by
  unfold Pr.mass at h ⊢
  have h1 := textB_le (s := v.name) (by omega)
  have h2 := numB_far (n := v.version) (by omega)
  have h3 := flat21 Us.mark Us.mass v.uses (fun x hx => Us.mark_le x (by have := sum_mem' Us.mass hx; omega))
  have h4 := flat21 Da.mark Da.mass v.datas (fun x hx => Da.mark_le x (by have := sum_mem' Da.mass hx; omega))
  have h5 := flat21 Tr.mark Tr.mass v.traits (fun x hx => Tr.mark_le x (by have := sum_mem' Tr.mass hx; omega))
  have h6 := flat21 Im.mark Im.mass v.impls (fun x hx => Im.mark_le x (by have := sum_mem' Im.mass hx; omega))
  have h7 := funcsB_le (l := v.funcs) (by omega)
  have h8 := flat21 Ac.mark Ac.mass v.actors (fun x hx => Ac.mark_le x (by have := sum_mem' Ac.mass hx; omega))
  have g1 := numB_nat (n := v.uses.length) (by have := len_sum' Us.mass Us.mass_pos v.uses; omega)
  have g2 := numB_nat (n := v.datas.length) (by have := len_sum' Da.mass Da.mass_pos v.datas; omega)
  have g3 := numB_nat (n := v.traits.length) (by have := len_sum' Tr.mass Tr.mass_pos v.traits; omega)
  have g4 := numB_nat (n := v.impls.length) (by have := len_sum' Im.mass Im.mass_pos v.impls; omega)
  have g5 := numB_nat (n := v.actors.length) (by have := len_sum' Ac.mass Ac.mass_pos v.actors; omega)
  simp only [Pr.mark, List.length_append]
  omega
theorem sumle {α : Type} (f g : α → Nat) : ∀ l : List α, (∀ a ∈ l, f a ≤ g a) → (l.map f).sum ≤ (l.map g).sum
  | [], _ => Nat.le_refl _
  | a :: l, h => by
    have h1 := h a (by simp)
    have h2 := sumle f g l (fun x hx => h x (List.mem_cons_of_mem _ hx))
    rw [List.map_cons, List.sum_cons, List.map_cons, List.sum_cons]
    omega
theorem V.nodesAll_sum : ∀ l : List V, V.nodesAll l = (l.map V.nodes).sum
  | [] => rfl
  | v :: l => by rw [V.nodesAll, V.nodesAll_sum l]; rfl
theorem V.nodes_le (v : V) : v.nodes ≤ v.mass := by
  induction v using V.ind with
  | h k n t l ih =>
    have := far_pos k
    have h := sumle V.nodes V.mass l ih
    simp only [V.nodes, V.nodesAll_sum, V.mass, V.masses_sum]
    omega
theorem wsum_flat (l : List Ex) : ((l.flatMap Ex.walk).map Ex.count1).sum = (l.map Ex.count).sum := by
  induction l with
  | nil => rfl
  | cons a l ih => rw [List.flatMap_cons, List.map_append, List.sum_append, ih, List.map_cons, List.sum_cons]; rfl
theorem Ex.count_eq (e : Ex) : e.count = e.count1 + (e.nexts.map Ex.count).sum := by
  rw [Ex.count, Ex.walk_eq, List.map_cons, List.sum_cons, wsum_flat]
theorem arsum (rs : List Ar) : (rs.map Ar.pn).sum + ((rs.map Ar.body).map Ex.count).sum = (rs.map fun r => r.pn + r.body.count).sum := by
  induction rs with
  | nil => rfl
  | cons a l ih => simp only [List.map_cons, List.sum_cons]; omega
theorem Ex.count_le (e : Ex) : e.count ≤ e.mass := by
  induction e using Ex.ind with
  | h k n t ns ys l rs a ih1 ih2 =>
    have h0 := far_pos k
    have h1 := sumle Ex.count Ex.mass l ih1
    have h2 := sumle (fun r : Ar => r.pn + r.body.count) Ar.mass rs (fun r hr => by
      obtain ⟨p, b⟩ := r
      have := ih2 _ hr p b rfl
      have := p.nodes_le
      simp only [Ar.pn, Ar.pat, Ar.body, Ar.mass]
      omega)
    have h3 := arsum rs
    rw [Ex.count_eq]
    simp only [Ex.count1, Ex.nexts, Ex.args, Ex.arms, Ex.mass, Ex.masses_sum, Ar.masses_sum, List.map_append, List.sum_append]
    omega
theorem fsum (l : List Im) : ((l.flatMap Im.funcs).map Fu.mass).sum ≤ (l.map Im.mass).sum := by
  induction l with
  | nil => exact Nat.le_refl _
  | cons a l ih => simp only [List.flatMap_cons, List.map_append, List.sum_append, List.map_cons, List.sum_cons, Im.mass]; omega
theorem Pr.masses (p : Pr) : (p.bodies.map Ex.mass).sum ≤ p.mass := by
  have h1 := fsum p.impls
  have h2 := sumle (fun f : Fu => f.body.mass) Fu.mass p.funs (fun f _ => by unfold Fu.mass; omega)
  have h3 := sumle (fun f : Ac => f.body.mass) Ac.mass p.actors (fun f _ => by unfold Ac.mass; omega)
  have e1 : (p.funs.map Fu.mass).sum = ((p.impls.flatMap Im.funcs).map Fu.mass).sum + (p.funcs.map Fu.mass).sum := by rw [Pr.funs, List.map_append, List.sum_append]
  rw [Pr.bodies, List.map_append, List.sum_append, List.map_map, List.map_map]
  unfold Pr.mass
  have e2 : (Ex.mass ∘ Fu.body) = fun f : Fu => f.body.mass := rfl
  have e3 : (Ex.mass ∘ Ac.body) = fun f : Ac => f.body.mass := rfl
  rw [e2, e3]
  omega
theorem Pr.count_le (p : Pr) : p.count ≤ p.mass := Nat.le_trans (sumle Ex.count Ex.mass p.bodies fun e _ => e.count_le) p.masses
theorem Pr.bodies_le (p : Pr) : p.bodies.length ≤ p.mass := Nat.le_trans (len_sum' Ex.mass Ex.mass_pos p.bodies) p.masses
end Go.Proofs.YtllgibfmddihgaaDoor
namespace Go.Proofs.YtllgibfmddihgaaDoor
open Go.RowKit
/-- a constant structure, part by part -/
def expandC : AV → AV
  | .c (.lit (.agg xs)) => .agg (xs.toList.map fun v => .c (.lit v))
  | a => a
theorem lits_ra (M : Mm) : ∀ l : List Value, RAs M (l.map fun v => .c (.lit v)) l
  | [] => by simp only [List.map_nil, RAs]
  | v :: l => by simp only [List.map_cons, RAs]; exact ⟨v, l, rfl, by simp only [RA, RT], lits_ra M l⟩
theorem expandC_ok {M : Mm} {a : AV} {x : Value} (h : RA M a x) : RA M (expandC a) x := by
  unfold expandC
  split
  · rename_i xs
    simp only [RA, RT] at h ⊢
    subst h
    exact ⟨xs.toList, by simp, lits_ra M _⟩
  · exact h
theorem zEx {P : Program} {F : Frm} {o : Oper} {ρ : Operand → AV} {hp : List Blk} {K : AV → List Blk → Prop} (h : LO P F o (fun x => expandC (ρ x)) hp K) : LO P F o ρ hp K :=
  ⟨fun M e w h1 h2 => h.out M e w (fun x hx => expandC_ok (h1 x hx)) h2⟩
end Go.Proofs.YtllgibfmddihgaaDoor
namespace Go.Proofs.YtllgibfmddihgaaDoor
open Go.RowKit
def needs (k n : Int) (a : Nat) : Int :=
  bif decide (k = 1) || decide (k = 2) || decide (k = 3) || decide (k = 4) || decide (k = 5) || decide (k = 16) then 0 else bif decide (k = 10) || decide (k = 13) || decide (k = 19) || decide (k = 20) || decide (k = 21) || decide (k = 22) || decide (k = 24) || decide (k = 25) then 1 else bif decide (k = 6) || decide (k = 15) || decide (k = 23) then 2 else bif decide (k = 7) then 3 else bif decide (k = 18) then (bif decide (n < 0) then 0 else 1) else bif decide (k = 8) || decide (k = 9) || decide (k = 12) || decide (k = 14) || decide (k = 17) then (a : Int) else bif decide (k = 11) then ((max a 1 : Nat) : Int) else -1
def Ex.needs : Ex → Int
  | .mk k n _ _ _ l _ _ => Go.Proofs.YtllgibfmddihgaaDoor.needs k n l.length
end Go.Proofs.YtllgibfmddihgaaDoor
namespace Go.Proofs.YtllgibfmddihgaaDoor
open Go.RowKit
mutual
def V.binds : V → List ByteArray
  | .mk k _ t l => bif decide (k = 2) then [t] else bif decide (k = 6) then V.bindsAll l else []
def V.bindsAll : List V → List ByteArray
  | [] => []
  | v :: r => v.binds ++ V.bindsAll r
end
end Go.Proofs.YtllgibfmddihgaaDoor
namespace Go.Proofs.YtllgibfmddihgaaDoor
open Go.RowKit
theorem all_len (l : List Ex) : (Ex.all l).length = l.length * 8 := by
  induction l with
  | nil => rfl
  | cons a l ih => rw [Ex.all, List.length_append, ih, Ex.ts_len, List.length_cons]; omega
theorem spl_tail (acc : List Ex) (z us : List T) (hz : z.length = 8) (hu : us.length = 8) : spl (Ex.all acc ++ z) (acc.length * 8) us = Ex.all acc ++ us := by
  have hl := all_len acc
  rw [spl_eq _ _ _ (by rw [List.length_append]; omega), List.take_append_of_le_length (by omega), List.take_of_length_le (by omega), List.drop_of_length_le (by rw [List.length_append]; omega), List.append_nil]
def arWalk (r : Ar) : List Ex := r.body.walk
theorem arWalk_eq (rs : List Ar) : (rs.map Ar.body).flatMap Ex.walk = rs.flatMap arWalk := by
  induction rs with
  | nil => rfl
  | cons a l ih => simp only [List.map_cons, List.flatMap_cons, ih]; rfl
set_option maxRecDepth 100000 in
set_option maxHeartbeats 4000000 in
theorem walk1_ag (e : Ex) : ∀ (b1 b2 : Nat) (v : Value) (acc : List Ex), acc.length + e.walk.length ≤ 1048576 →
    AG Tryd.prog 135 [.c e.t, .ptr 0 b1 0, .ptr 1 b2 0] [.box b1 31 [.own 2 v], .box b2 203 [.fn (.func 135) [.ptr 0 b1 0, .ptr 1 b2 0]], .row v 40 8 acc.length (Ex.all acc)]
      (fun r hs => ∃ v', r = .tup [] ∧ hs = [.box b1 31 [.own 2 v'], .box b2 203 [.fn (.func 135) [.ptr 0 b1 0, .ptr 1 b2 0]], .row v' 40 8 (acc ++ e.walk).length (Ex.all (acc ++ e.walk))]) := by
  induction e using Ex.ind with
  | h k n t ns ys l rs p ih ihr =>
    intro b1 b2 v acc hb
    have hall : ((acc ++ [Ex.mk k n t ns ys l rs p]) ++ l.flatMap Ex.walk) ++ rs.flatMap arWalk = acc ++ (Ex.mk k n t ns ys l rs p).walk := by
      rw [Ex.walk_eq, Ex.nexts, List.flatMap_append, Ex.args, Ex.arms, arWalk_eq]
      simp only [List.append_assoc, List.cons_append, List.nil_append]
    have hbl : ((acc ++ [Ex.mk k n t ns ys l rs p]) ++ l.flatMap Ex.walk).length + (rs.flatMap arWalk).length ≤ 1048576 := by rw [← List.length_append, hall, List.length_append]; exact hb
    have hbl1 : (acc ++ [Ex.mk k n t ns ys l rs p]).length + (l.flatMap Ex.walk).length ≤ 1048576 := by rw [List.length_append] at hbl; omega
    have hac : acc.length + 1 ≤ 1048576 := by simp only [List.length_append, List.length_cons, List.length_nil] at hbl1; omega
    have hr : ∀ r ∈ rs, ∀ (b1 b2 : Nat) (v : Value) (acc : List Ex), acc.length + (arWalk r).length ≤ 1048576 → AG Tryd.prog 135 [.c r.body.t, .ptr 0 b1 0, .ptr 1 b2 0] [.box b1 31 [.own 2 v], .box b2 203 [.fn (.func 135) [.ptr 0 b1 0, .ptr 1 b2 0]], .row v 40 8 acc.length (Ex.all acc)]
      (fun q hs => ∃ v', q = .tup [] ∧ hs = [.box b1 31 [.own 2 v'], .box b2 203 [.fn (.func 135) [.ptr 0 b1 0, .ptr 1 b2 0]], .row v' 40 8 (acc ++ arWalk r).length (Ex.all (acc ++ arWalk r))]) := fun r hr => by
      obtain ⟨q, x⟩ := r
      exact ihr _ hr q x rfl
    have e1 : (acc ++ [Ex.mk k n t ns ys l rs p]).length = acc.length + 1 := by simp
    have e2 : Ex.all (acc ++ [Ex.mk k n t ns ys l rs p]) = Ex.all acc ++ (Ex.mk k n t ns ys l rs p).ts := by rw [Ex.all_app, Ex.all_one]
    have hble : acc.length * 8 + 8 ≤ (Ex.all acc ++ ([.lit (.int .i64 0), .lit (.int .i64 0), .lit (.string ⟨#[]⟩), .lit (.slice none 0 0), .lit (.slice none 0 0), .lit (.slice none 0 0), .lit (.slice none 0 0), .lit (.int .i64 0)] : List T)).length := by rw [List.length_append, all_len]; simp
    clear ihr hb
    refine ag_enter 3 tok Tryd.func135 Tryd.ntmps135 Tryd.results135 rfl (by kernel_rfl) rfl fun F => ?_
    repeat (first | refine gG ?_ | refine zN1 (fun hlen => ?_) | refine zN2 (fun hlen => ?_) | refine zAl (fun _ => ?_) | refine zBf ?_ | refine zAp (fun _ => ?_))
    refine x_join [8, 9, 10, 11, 12, 13] (fun _ : Value => []) (fun y : Value => [.box b1 31 [.own 2 y], .box b2 203 [.fn (.func 135) [.ptr 0 b1 0, .ptr 1 b2 0]], .row y 40 8 (acc ++ [Ex.mk k n t ns ys l rs p]).length (Ex.all (acc ++ [Ex.mk k n t ns ys l rs p]))]) (fun y => ?_) ?_
    rotate_left
    · skip
      refine ac_drawT [1, 1, 1, 1, 2, 2, 2, 2] (.fork [0, 1, 2, 3, 4] 5 (.fork [] 6 (.fin [7]) 7 (.fin [6])) 7 (.fin [5, 6])) (by kernel_rfl) (by kernel_rfl) ?_
      refine wt_fork ?_
      refine gW ?_
      apply w_q; (focus exact rfl); (focus exact rfl); focus (intro _; (refine zEx ?_; refine zBs ?_); exact det_refl)
      apply w_l; (focus exact rfl); (focus exact rfl); (first | (refine zkL ?_; first | refine zL1 ?_ | refine zL2 ?_ | refine zL3 ?_ | refine zLp ?_) | refine zM ?_ | (refine zkF ?_; first | refine zF1 ?_ | refine zF2 ?_ | refine zF3 ?_) | refine zA ?_ | (refine zkB ?_; first | refine zC5 ?_ | refine zC6 ?_ | refine zC1 ?_ | refine zC2 ?_ | refine zC3 ?_ | refine zC4 ?_ | refine zS5 ?_ | refine zS6 ?_ | refine zS1 ?_ | refine zS2 ?_ | refine zS3 ?_ | refine zS4 ?_ | refine zInc ?_ | refine zQ1 ?_ | refine zQ2 ?_ | refine zQ3 ?_ | refine zQ4 ?_ | refine zQ5 ?_ | refine zQ6 ?_) | (refine zkI ?_; first | refine zN1 (fun hlen => ?_) | refine zN2 (fun hlen => ?_) | refine zN3 ?_ | refine zN4 ?_ | refine zAp (fun _ => ?_)) | refine zS ?_ | refine zAl (fun _ => ?_) | refine zBx (fun _ => ?_) | refine zPt ?_ | refine zPf ?_ | refine zE ?_ | refine zEA ?_ | refine zNot ?_ | refine zBd ?_ | refine zBs ?_ | refine zFn ?_ | refine zK1 ?_ | refine zK2 ?_)
      refine w_nil ?_
      refine ⟨?_, ?_⟩
      · apply w_l; (focus exact rfl); (focus exact rfl); (refine zIxo acc.length (show acc.length < acc.length + 1 by omega) ?_)
        refine w_nil ?_
        refine wt_fork ?_
        refine w_nil ?_
        refine ⟨?_, ?_⟩
        · apply w_l; (focus exact rfl); (focus exact rfl); (refine zSe (spl_tail acc [.lit (.int .i64 0), .lit (.int .i64 0), .lit (.string ⟨#[]⟩), .lit (.slice none 0 0), .lit (.slice none 0 0), .lit (.slice none 0 0), .lit (.slice none 0 0), .lit (.int .i64 0)] (Ex.ts (Ex.mk k n t ns ys l rs p)) rfl rfl) hble ?_)
          refine w_nil ?_
          refine wt_fin ?_
          apply w_l; (focus exact rfl); (focus exact rfl); (first | (refine zkL ?_; first | refine zL1 ?_ | refine zL2 ?_ | refine zL3 ?_ | refine zLp ?_) | refine zM ?_ | (refine zkF ?_; first | refine zF1 ?_ | refine zF2 ?_ | refine zF3 ?_) | refine zA ?_ | (refine zkB ?_; first | refine zC5 ?_ | refine zC6 ?_ | refine zC1 ?_ | refine zC2 ?_ | refine zC3 ?_ | refine zC4 ?_ | refine zS5 ?_ | refine zS6 ?_ | refine zS1 ?_ | refine zS2 ?_ | refine zS3 ?_ | refine zS4 ?_ | refine zInc ?_ | refine zQ1 ?_ | refine zQ2 ?_ | refine zQ3 ?_ | refine zQ4 ?_ | refine zQ5 ?_ | refine zQ6 ?_) | (refine zkI ?_; first | refine zN1 (fun hlen => ?_) | refine zN2 (fun hlen => ?_) | refine zN3 ?_ | refine zN4 ?_ | refine zAp (fun _ => ?_)) | refine zS ?_ | refine zAl (fun _ => ?_) | refine zBx (fun _ => ?_) | refine zPt ?_ | refine zPf ?_ | refine zE ?_ | refine zEA ?_ | refine zNot ?_ | refine zBd ?_ | refine zBs ?_ | refine zFn ?_ | refine zK1 ?_ | refine zK2 ?_)
          refine w_nil ?_
          exact ⟨_, x_wkd 3 trivial (by simp only [e1, e2]; rfl) (by repeat (first | exact ag_refl | refine ag_upd rfl ?_ | refine ag_at rfl rfl ?_))⟩
        · apply w_l; (focus exact rfl); (focus exact rfl); (first | (refine zkL ?_; first | refine zL1 ?_ | refine zL2 ?_ | refine zL3 ?_ | refine zLp ?_) | refine zM ?_ | (refine zkF ?_; first | refine zF1 ?_ | refine zF2 ?_ | refine zF3 ?_) | refine zA ?_ | (refine zkB ?_; first | refine zC5 ?_ | refine zC6 ?_ | refine zC1 ?_ | refine zC2 ?_ | refine zC3 ?_ | refine zC4 ?_ | refine zS5 ?_ | refine zS6 ?_ | refine zS1 ?_ | refine zS2 ?_ | refine zS3 ?_ | refine zS4 ?_ | refine zInc ?_ | refine zQ1 ?_ | refine zQ2 ?_ | refine zQ3 ?_ | refine zQ4 ?_ | refine zQ5 ?_ | refine zQ6 ?_) | (refine zkI ?_; first | refine zN1 (fun hlen => ?_) | refine zN2 (fun hlen => ?_) | refine zN3 ?_ | refine zN4 ?_ | refine zAp (fun _ => ?_)) | refine zS ?_ | refine zAl (fun _ => ?_) | refine zBx (fun _ => ?_) | refine zPt ?_ | refine zPf ?_ | refine zE ?_ | refine zEA ?_ | refine zNot ?_ | refine zBd ?_ | refine zBs ?_ | refine zFn ?_ | refine zK1 ?_ | refine zK2 ?_)
          refine w_nil ?_
          refine wt_fin ?_
          apply w_l; (focus exact rfl); (focus exact rfl); (refine zSe (spl_tail acc [.lit (.int .i64 0), .lit (.int .i64 0), .lit (.string ⟨#[]⟩), .lit (.slice none 0 0), .lit (.slice none 0 0), .lit (.slice none 0 0), .lit (.slice none 0 0), .lit (.int .i64 0)] (Ex.ts (Ex.mk k n t ns ys l rs p)) rfl rfl) hble ?_)
          refine w_nil ?_
          exact ⟨_, x_wkd 3 trivial (by simp only [e1, e2]; rfl) (by repeat (first | exact ag_refl | refine ag_upd rfl ?_ | refine ag_at rfl rfl ?_))⟩
      · apply w_l; (focus exact rfl); (focus exact rfl); (first | (refine zkL ?_; first | refine zL1 ?_ | refine zL2 ?_ | refine zL3 ?_ | refine zLp ?_) | refine zM ?_ | (refine zkF ?_; first | refine zF1 ?_ | refine zF2 ?_ | refine zF3 ?_) | refine zA ?_ | (refine zkB ?_; first | refine zC5 ?_ | refine zC6 ?_ | refine zC1 ?_ | refine zC2 ?_ | refine zC3 ?_ | refine zC4 ?_ | refine zS5 ?_ | refine zS6 ?_ | refine zS1 ?_ | refine zS2 ?_ | refine zS3 ?_ | refine zS4 ?_ | refine zInc ?_ | refine zQ1 ?_ | refine zQ2 ?_ | refine zQ3 ?_ | refine zQ4 ?_ | refine zQ5 ?_ | refine zQ6 ?_) | (refine zkI ?_; first | refine zN1 (fun hlen => ?_) | refine zN2 (fun hlen => ?_) | refine zN3 ?_ | refine zN4 ?_ | refine zAp (fun _ => ?_)) | refine zS ?_ | refine zAl (fun _ => ?_) | refine zBx (fun _ => ?_) | refine zPt ?_ | refine zPf ?_ | refine zE ?_ | refine zEA ?_ | refine zNot ?_ | refine zBd ?_ | refine zBs ?_ | refine zFn ?_ | refine zK1 ?_ | refine zK2 ?_)
        refine w_nil ?_
        refine wt_fin ?_
        apply w_l; (focus exact rfl); (focus exact rfl); (refine zIxo acc.length (show acc.length < acc.length + 1 by omega) ?_)
        apply w_l; (focus exact rfl); (focus exact rfl); (refine zSe (spl_tail acc [.lit (.int .i64 0), .lit (.int .i64 0), .lit (.string ⟨#[]⟩), .lit (.slice none 0 0), .lit (.slice none 0 0), .lit (.slice none 0 0), .lit (.slice none 0 0), .lit (.int .i64 0)] (Ex.ts (Ex.mk k n t ns ys l rs p)) rfl rfl) hble ?_)
        refine w_nil ?_
        exact ⟨_, x_wkd 3 trivial (by simp only [e1, e2]; rfl) (by repeat (first | exact ag_refl | refine ag_upd rfl ?_ | refine ag_at rfl rfl ?_))⟩
    · clear e1 e2 hble hac
      repeat (first | refine gG ?_ | refine zN1 (fun hlen => ?_) | refine zN2 (fun hlen => ?_) | refine zAl (fun _ => ?_) | refine zBx (fun _ => ?_) | refine zAp (fun _ => ?_))
      refine x_loop [5, 17, 18, 19, 20, 21, 22, 23, 24] (fun z : Nat × Value => [(17, .c (.lit (.int .i64 (z.1 : Nat))))]) (fun z => [.box b1 31 [.own 2 z.2], .box b2 203 [.fn (.func 135) [.ptr 0 b1 0, .ptr 1 b2 0]], .row z.2 40 8 ((acc ++ [Ex.mk k n t ns ys l rs p]) ++ (l.take z.1).flatMap Ex.walk).length (Ex.all ((acc ++ [Ex.mk k n t ns ys l rs p]) ++ (l.take z.1).flatMap Ex.walk))])
        (fun z => z.1 ≤ l.length) (fun z => l.length - z.1) (0, y) (Nat.zero_le _) ⟨rfl, trivial⟩ (by simp only [List.take_zero, List.flatMap_nil, List.append_nil]; try rfl) ?_
      rintro ⟨j, u⟩ hj
      dsimp only at hj ⊢
      repeat (first | refine gG ?_ | refine zN1 (fun hlen => ?_) | refine zN2 (fun hlen => ?_) | refine zAl (fun _ => ?_) | refine zBx (fun _ => ?_) | refine zAp (fun _ => ?_))
      refine x_cond rfl (fun h => ?_) (fun h => ?_)
      · have hj' : j < l.length := by simpa using h
        obtain ⟨a, ha⟩ := nth hj'
        have hle := flatl_le Ex.walk l (j + 1)
        have hsn := flat_snoc' Ex.walk ha
        have hnx : (acc ++ [Ex.mk k n t ns ys l rs p]) ++ (l.take (j + 1)).flatMap Ex.walk = ((acc ++ [Ex.mk k n t ns ys l rs p]) ++ (l.take j).flatMap Ex.walk) ++ Ex.walk a := by rw [hsn]; simp only [List.append_assoc]
        have hc := ih a (List.mem_of_getElem? ha) b1 b2 u ((acc ++ [Ex.mk k n t ns ys l rs p]) ++ (l.take j).flatMap Ex.walk) (by rw [← List.length_append, ← hnx, List.length_append]; omega)
        have hat := Ex.at ha
        clear h hsn hle
        obtain ⟨kb, nb, tb, nsb, ysb, lb, rsb, pb⟩ := a
        repeat (first | refine gG ?_ | refine zN1 (fun hlen => ?_) | refine zN2 (fun hlen => ?_) | refine zAl (fun _ => ?_) | refine zBx (fun _ => ?_) | refine zAp (fun _ => ?_))
        refine zIx (j) (hj') ?_
        repeat (first | refine gG ?_ | refine zN1 (fun hlen => ?_) | refine zN2 (fun hlen => ?_) | refine zAl (fun _ => ?_) | refine zBx (fun _ => ?_) | refine zAp (fun _ => ?_))
        refine zEl (hat) (Ex.ts_len _) ?_
        repeat (first | refine gG ?_ | refine zN1 (fun hlen => ?_) | refine zN2 (fun hlen => ?_) | refine zAl (fun _ => ?_) | refine zBx (fun _ => ?_) | refine zAp (fun _ => ?_))
        refine zCallG [0, 1, 2] hc ?_
        rintro _ _ ⟨v', rfl, rfl⟩
        refine ⟨.tup [], _, re_refl, rfl, rfl, ?_⟩
        repeat (first | refine gG ?_ | refine zN1 (fun hlen => ?_) | refine zN2 (fun hlen => ?_) | refine zAl (fun _ => ?_) | refine zBx (fun _ => ?_) | refine zAp (fun _ => ?_))
        exact ⟨(j + 1, v'), hj', by simp only; omega, x_wkd 3 ⟨rfl, trivial⟩ (by simp only [hnx]; rfl) (by repeat (first | exact ag_refl | refine ag_upd rfl ?_ | refine ag_at rfl rfl ?_))⟩
      · have hj' : j = l.length := by
          have : ¬ j < l.length := by simpa using h
          omega
        subst hj'
        clear h
        rw [List.take_length]
        repeat (first | refine gG ?_ | refine zN1 (fun hlen => ?_) | refine zN2 (fun hlen => ?_) | refine zAl (fun _ => ?_) | refine zBx (fun _ => ?_) | refine zAp (fun _ => ?_))
        refine x_loop [7, 28, 29, 30, 31, 32, 33, 34, 35, 36] (fun z : Nat × Value => [(28, .c (.lit (.int .i64 (z.1 : Nat))))]) (fun z => [.box b1 31 [.own 2 z.2], .box b2 203 [.fn (.func 135) [.ptr 0 b1 0, .ptr 1 b2 0]], .row z.2 40 8 (((acc ++ [Ex.mk k n t ns ys l rs p]) ++ l.flatMap Ex.walk) ++ (rs.take z.1).flatMap arWalk).length (Ex.all (((acc ++ [Ex.mk k n t ns ys l rs p]) ++ l.flatMap Ex.walk) ++ (rs.take z.1).flatMap arWalk))])
          (fun z => z.1 ≤ rs.length) (fun z => rs.length - z.1) (0, _) (Nat.zero_le _) ⟨rfl, trivial⟩ (by simp only [List.take_zero, List.flatMap_nil, List.append_nil]; try rfl) ?_
        rintro ⟨j, u⟩ hj
        dsimp only at hj ⊢
        repeat (first | refine gG ?_ | refine zN1 (fun hlen => ?_) | refine zN2 (fun hlen => ?_) | refine zAl (fun _ => ?_) | refine zBx (fun _ => ?_) | refine zAp (fun _ => ?_))
        refine x_cond rfl (fun h => ?_) (fun h => ?_)
        · have hj' : j < rs.length := by simpa using h
          obtain ⟨a, ha⟩ := nth hj'
          have hle := flatl_le arWalk rs (j + 1)
          have hsn := flat_snoc' arWalk ha
          have hnx : ((acc ++ [Ex.mk k n t ns ys l rs p]) ++ l.flatMap Ex.walk) ++ (rs.take (j + 1)).flatMap arWalk = (((acc ++ [Ex.mk k n t ns ys l rs p]) ++ l.flatMap Ex.walk) ++ (rs.take j).flatMap arWalk) ++ arWalk a := by rw [hsn]; simp only [List.append_assoc]
          have hc := hr a (List.mem_of_getElem? ha) b1 b2 u (((acc ++ [Ex.mk k n t ns ys l rs p]) ++ l.flatMap Ex.walk) ++ (rs.take j).flatMap arWalk) (by rw [← List.length_append, ← hnx, List.length_append]; omega)
          have hat := Ar.at ha
          clear h hsn hle
          obtain ⟨⟨kp, np, tp, lp⟩, ⟨kb, nb, tb, nsb, ysb, lb, rsb, pb⟩⟩ := a
          repeat (first | refine gG ?_ | refine zN1 (fun hlen => ?_) | refine zN2 (fun hlen => ?_) | refine zAl (fun _ => ?_) | refine zBx (fun _ => ?_) | refine zAp (fun _ => ?_))
          refine zIx (j) (hj') ?_
          repeat (first | refine gG ?_ | refine zN1 (fun hlen => ?_) | refine zN2 (fun hlen => ?_) | refine zAl (fun _ => ?_) | refine zBx (fun _ => ?_) | refine zAp (fun _ => ?_))
          refine zEl (hat) (Ar.ts_len _) ?_
          repeat (first | refine gG ?_ | refine zN1 (fun hlen => ?_) | refine zN2 (fun hlen => ?_) | refine zAl (fun _ => ?_) | refine zBx (fun _ => ?_) | refine zAp (fun _ => ?_))
          refine zCallG [0, 1, 2] hc ?_
          rintro _ _ ⟨v', rfl, rfl⟩
          refine ⟨.tup [], _, re_refl, rfl, rfl, ?_⟩
          repeat (first | refine gG ?_ | refine zN1 (fun hlen => ?_) | refine zN2 (fun hlen => ?_) | refine zAl (fun _ => ?_) | refine zBx (fun _ => ?_) | refine zAp (fun _ => ?_))
          exact ⟨(j + 1, v'), hj', by simp only; omega, x_wkd 3 ⟨rfl, trivial⟩ (by simp only [hnx]; rfl) (by repeat (first | exact ag_refl | refine ag_upd rfl ?_ | refine ag_at rfl rfl ?_))⟩
        · have hj' : j = rs.length := by
            have : ¬ j < rs.length := by simpa using h
            omega
          subst hj'
          clear h
          rw [List.take_length]
          repeat (first | refine gG ?_ | refine zN1 (fun hlen => ?_) | refine zN2 (fun hlen => ?_) | refine zAl (fun _ => ?_) | refine zBx (fun _ => ?_) | refine zAp (fun _ => ?_))
          refine zG ?_
          exact ⟨_, rfl, by rw [hall]⟩
end Go.Proofs.YtllgibfmddihgaaDoor
namespace Go.Proofs.YtllgibfmddihgaaDoor
open Go.RowKit
set_option maxRecDepth 100000 in
set_option maxHeartbeats 4000000 in
theorem walk_af (e : Ex) (he : e.walk.length ≤ 1048576) : AF Tryd.prog 51 [e.t] (· = Ex.row e.walk) := by
  have hc := fun b1 b2 v => walk1_ag e b1 b2 v [] (by simpa using he)
  simp only [List.nil_append] at hc
  generalize e.walk = W at *
  obtain ⟨k0, n0, t0, ns0, ys0, l0, rs0, p0⟩ := e
  refine af_enter tok Tryd.func51 Tryd.ntmps51 Tryd.results51 rfl (by kernel_rfl) rfl rfl fun F hX => ?_
  repeat (first | refine ac_seq ?_ | refine ac_block ?_ | refine ac_region ?_)
  repeat (first | refine gO ?_ | refine zAl (fun _ => ?_) | refine zBf ?_)
  repeat (first | refine ac_seq ?_ | refine ac_block ?_ | refine ac_region ?_)
  repeat (first | refine gO ?_ | refine zAl (fun _ => ?_) | refine zBf ?_)
  repeat (first | refine ac_seq ?_ | refine ac_block ?_ | refine ac_region ?_)
  repeat (first | refine gO ?_ | refine zAl (fun _ => ?_) | refine zBf ?_)
  repeat (first | refine ac_seq ?_ | refine ac_block ?_ | refine ac_region ?_)
  repeat (first | refine gO ?_ | refine zAl (fun _ => ?_) | refine zBf ?_)
  refine x_own_cell 0 0 40 8 rfl rfl rfl rfl rfl rfl ?_
  repeat (first | refine gG ?_ | refine zAl (fun _ => ?_) | refine zBx (fun _ => ?_))
  refine zCallG [0, 1, 2] (hc _ _ _) ?_
  rintro _ _ ⟨v', rfl, rfl⟩
  refine ⟨.tup [], _, re_refl, rfl, rfl, ?_⟩
  repeat (first | refine gG ?_ | refine zAl (fun _ => ?_) | refine zBx (fun _ => ?_))
  first | refine zR ?_ | refine zQ ?_
  rfl
end Go.Proofs.YtllgibfmddihgaaDoor
namespace Go.Proofs.YtllgibfmddihgaaDoor
open Go.RowKit
mutual
def Ex.clear : Ex → Ex
  | .mk k n t ns ys l rs _ => .mk k n t ns ys (Ex.clears l) (Ar.clears rs) 0
def Ex.clears : List Ex → List Ex
  | [] => []
  | v :: r => v.clear :: Ex.clears r
def Ar.clears : List Ar → List Ar
  | [] => []
  | .mk p b :: r => .mk p b.clear :: Ar.clears r
end
def Ar.clear : Ar → Ar
  | .mk p b => .mk p b.clear
end Go.Proofs.YtllgibfmddihgaaDoor
namespace Go.Proofs.YtllgibfmddihgaaDoor
open Go.RowKit
def Ex.pos : Ex → Int
  | .mk _ _ _ _ _ _ _ p => p
end Go.Proofs.YtllgibfmddihgaaDoor
namespace Go.Proofs.YtllgibfmddihgaaDoor
open Go.RowKit
def hasS (l : List ByteArray) (s : ByteArray) : Bool := l.any fun x => decide (x = s)
theorem hasS_app (l r : List ByteArray) (s : ByteArray) : hasS (l ++ r) s = (hasS l s || hasS r s) := by simp [hasS]
/-- what is neither in names nor yet in out is put behind, one after the other -/
def addS (names : List ByteArray) : List ByteArray → List ByteArray → List ByteArray
  | out, [] => out
  | out, s :: r => addS names (bif hasS names s || hasS out s then out else out ++ [s]) r
theorem hasS_one (x s : ByteArray) : hasS [x] s = decide (x = s) := by simp [hasS]
end Go.Proofs.YtllgibfmddihgaaDoor
namespace Go.Proofs.YtllgibfmddihgaaDoor
open Go.RowKit
/-- the names that mean something in the i-th part -/
def inner (k : Int) (t : ByteArray) (ns : List ByteArray) (i : Nat) : List ByteArray := bif decide (k = 10) then ns else bif decide (k = 6) && decide ((i : Int) = 1) then [t] else []
def gather (B : List ByteArray) : List ByteArray → List (List ByteArray × List ByteArray) → List ByteArray
  | out, [] => out
  | out, p :: r => gather B (addS (B ++ p.1) out p.2) r
def scopes (k : Int) (t : ByteArray) (ns : List ByteArray) : Nat → List (List ByteArray) → List (List ByteArray × List ByteArray)
  | _, [] => []
  | i, L :: r => (inner k t ns i, L) :: scopes k t ns (i + 1) r
def partsOf (k n : Int) (t : ByteArray) (ns : List ByteArray) (l : List (List ByteArray)) (rs : List (List ByteArray × List ByteArray)) : List (List ByteArray × List ByteArray) :=
  bif decide ((l.length : Int) < needs k n l.length) then l.map (fun L => ([], L)) else scopes k t ns 0 (l.take (needs k n l.length).toNat) ++ (bif decide (k = 13) || decide (k = 18) then rs else [])
mutual
def Ex.free : Ex → List ByteArray
  | .mk k n t ns _ l rs _ => bif decide (k = 5) then [t] else gather [] [] (partsOf k n t ns (Ex.frees l) (Ar.frees rs))
def Ex.frees : List Ex → List (List ByteArray)
  | [] => []
  | v :: r => v.free :: Ex.frees r
def Ar.frees : List Ar → List (List ByteArray × List ByteArray)
  | [] => []
  | .mk p b :: r => (p.binds, b.free) :: Ar.frees r
end
def Ar.free (r : Ar) : List ByteArray × List ByteArray := (r.pat.binds, r.body.free)
/-- the maps say what is gathered, and how often a name is bound -/
def SeenOk (m : List (ByteArray × T)) (out : List ByteArray) : Prop := ∀ s, (mget s m).getD (.lit (.bool false)) = .lit (.bool (hasS out s))
def times (s : ByteArray) (B : List ByteArray) : Nat := (B.filter fun x => decide (x = s)).length
def BndOk (m : List (ByteArray × T)) (B : List ByteArray) : Prop := ∀ s, (mget s m).getD (.lit (.int .i64 0)) = .lit (.int .i64 (times s B : Nat))
theorem SeenOk.put {m : List (ByteArray × T)} {out : List ByteArray} (h : SeenOk m out) (s : ByteArray) : SeenOk (mput s (.lit (.bool true)) m) (out ++ [s]) := by
  intro x
  rw [mget_put, hasS_app, hasS_one]
  by_cases hx : x = s
  · subst hx; simp
  · rw [if_neg hx, h x]; simp [Ne.symm hx]
theorem BndOk.put {m : List (ByteArray × T)} {B B' : List ByteArray} (h : BndOk m B) (s : ByteArray) (z : Int) (hz : z = (times s B' : Nat)) (hB : ∀ x, x ≠ s → times x B' = times x B) : BndOk (mput s (.lit (.int .i64 z)) m) B' := by
  intro x
  rw [mget_put]
  by_cases hx : x = s
  · subst hx; simp [hz]
  · rw [if_neg hx, h x, hB x hx]
def pa (a : Ex) : List ByteArray × List ByteArray := ([], a.free)
end Go.Proofs.YtllgibfmddihgaaDoor
namespace Go.Proofs.YtllgibfmddihgaaDoor
open Go.RowKit
/-- the place of a name among names -/
def posOf (s : ByteArray) (l : List ByteArray) : Int := idxI (fun x => decide (s = x)) l
set_option maxRecDepth 100000 in
set_option maxHeartbeats 1000000 in
theorem idxStr_af (l : List ByteArray) (s : ByteArray) : AF Tryd.prog 126 [strRow l, .lit (.string s)] (· = .lit (.int .i64 (posOf s l))) := by
  refine af_enter tok Tryd.func126 Tryd.ntmps126 Tryd.results126 rfl (by kernel_rfl) rfl rfl fun F hX => ?_
  repeat (first | refine gG ?_ | refine zN1 (fun hlen => ?_) | refine zN2 (fun hlen => ?_))
  refine x_loop [4, 5, 8, 9, 10, 11, 12, 13, 14, 15, 16, 17, 18] (fun k : Nat => [(8, .c (.lit (.int .i64 k)))]) (fun _ => []) (fun k => k ≤ l.length ∧ idxAt (fun x => decide (s = x)) l k) (fun k => l.length - k) 0 ⟨Nat.zero_le _, idxAt_zero _ l⟩ ⟨rfl, trivial⟩ rfl fun k hk => ?_
  repeat (first | refine gG ?_ | refine zN1 (fun hlen => ?_) | refine zN2 (fun hlen => ?_))
  refine x_cond rfl (fun h => ?_) (fun h => ?_)
  · have hk' : k < l.length := by simpa using h
    obtain ⟨a, ha⟩ := nth hk'
    have hat := str_at ha
    rw [← Nat.mul_one k] at hat
    repeat (first | refine gG ?_ | refine zN1 (fun hlen => ?_) | refine zN2 (fun hlen => ?_))
    refine zIx k hk' ?_
    repeat (first | refine gG ?_ | refine zN1 (fun hlen => ?_) | refine zN2 (fun hlen => ?_))
    refine zEl1 hat ?_
    cases hp : decide (s = a)
    · repeat (first | refine gG ?_ | refine zN1 (fun hlen => ?_) | refine zN2 (fun hlen => ?_))
      exact ⟨k + 1, ⟨hk', idxAt_no hk.2 ha hp⟩, by omega, x_wkd 0 ⟨rfl, trivial⟩ rfl (by repeat (first | exact ag_refl | refine ag_upd rfl ?_ | refine ag_at rfl rfl ?_))⟩
    · repeat (first | refine gG ?_ | refine zN1 (fun hlen => ?_) | refine zN2 (fun hlen => ?_))
      first | refine zR ?_ | refine zQ ?_
      rw [posOf, idxAt_yes hk.2 ha hp]; rfl
  · have hk' : k = l.length := by have : ¬ k < l.length := by simpa using h
                                  omega
    subst hk'
    repeat (first | refine gG ?_ | refine zN1 (fun hlen => ?_) | refine zN2 (fun hlen => ?_))
    first | refine zR ?_ | refine zQ ?_
    rw [posOf, idxAt_end hk.2]; rfl
theorem has_pos (s : ByteArray) (l : List ByteArray) : decide (0 ≤ posOf s l) = hasS l s := by
  rw [posOf, idxI_any, hasS]
  congr 1
  funext x
  exact decide_eq_decide.2 eq_comm
set_option maxRecDepth 100000 in
set_option maxHeartbeats 1000000 in
theorem contains_af (l : List ByteArray) (s : ByteArray) : AF Tryd.prog 38 [strRow l, .lit (.string s)] (· = .lit (.bool (hasS l s))) := by
  have hc := idxStr_af l s
  have hh := has_pos s l
  generalize posOf s l = p at *
  refine af_enter tok Tryd.func38 Tryd.ntmps38 Tryd.results38 rfl (by kernel_rfl) rfl rfl fun F hX => ?_
  repeat (first | refine gG ?_)
  refine zCall (hc) ?_
  rintro _ rfl
  repeat (first | refine gG ?_)
  first | refine zR ?_ | refine zQ ?_
  rw [← hh]
  rfl
abbrev Sd := Ex × List ByteArray
def Sd.ts (p : Sd) : List T := p.1.ts ++ [strRow p.2]
theorem Sd.ts_len (p : Sd) : (Sd.ts p).length = 9 := by rw [Sd.ts, List.length_append, Ex.ts_len]; rfl
def Sd.row (l : List Sd) : T := .row l.length 9 (l.flatMap Sd.ts)
theorem Sd.at {l : List Sd} {k : Nat} {p : Sd} (h : l[k]? = some p) : ((l.flatMap Sd.ts).drop (k * 9)).take 9 = Sd.ts p := flat_at Sd.ts 9 Sd.ts_len h
end Go.Proofs.YtllgibfmddihgaaDoor
namespace Go.Proofs.YtllgibfmddihgaaDoor
open Go.RowKit
theorem len_flat {α β : Type} {f : α → List β} {sz : Nat} (hf : ∀ a, (f a).length = sz) (l : List α) : (l.flatMap f).length = l.length * sz := by
  induction l with
  | nil => simp
  | cons a l ih => rw [List.flatMap_cons, List.length_append, ih, hf a, List.length_cons, Nat.succ_mul]; omega
end Go.Proofs.YtllgibfmddihgaaDoor
namespace Go.Proofs.YtllgibfmddihgaaDoor
open Go.RowKit
section
variable {md : Region.Mode} {ops : Array Oper} {cls : Nat → Nat}
/-- m says, bit by bit, for whom each operation waits -/
def claimB (md : Region.Mode) (ops : Array Oper) (m : List Nat) : Bool :=
  (List.range ops.size).all fun j => (List.range ops.size).all fun i => !(m.getD j 0).testBit i ||
    (match ops[j]? with
      | some oj => oj.after.any fun e => Region.binds md e && (e.on == i || (Nat.blt e.on j && (m.getD e.on 0).testBit i))
      | none => false)
theorem claim_reach {m : List Nat} (h : claimB md ops m = true) {i : Nat} (hi : i < ops.size) : ∀ (f j : Nat), j < f → j < ops.size → (m.getD j 0).testBit i = true → reachB md ops f j i = true
  | 0, _, h0, _, _ => by omega
  | f + 1, j, hf, hj, hb => by
    have h1 := List.all_eq_true.1 (List.all_eq_true.1 h j (List.mem_range.2 hj)) i (List.mem_range.2 hi)
    rw [hb] at h1
    simp only [Bool.not_true, Bool.false_or] at h1
    unfold reachB
    split at h1
    · rename_i oj hoj
      rw [hoj]
      obtain ⟨e, he, hq⟩ := Array.any_eq_true'.1 h1
      refine Array.any_eq_true'.2 ⟨e, he, ?_⟩
      simp only [Bool.and_eq_true, Bool.or_eq_true, beq_iff_eq] at hq ⊢
      refine ⟨hq.1, hq.2.imp id fun h2 => ?_⟩
      have hlt : e.on < j := by simpa using h2.1
      exact claim_reach h hi f e.on (by omega) (by omega) h2.2
    · cases h1
def freeC (ops : Array Oper) (cls : Nat → Nat) (m : List Nat) (listed : Array Bool) (i : Nat) : Bool :=
  match ops[i]? with
  | none => false
  | some oi => (List.range ops.size).all fun j => j == i || listed.getD j true || (m.getD j 0).testBit i ||
      (match ops[j]? with | some oj => oi.apart ops oj && (cls j != 2 || cls i == 0) | none => true)
theorem freeC_A {m : List Nat} (h : claimB md ops m = true) {listed : Array Bool} {i : Nat} (hf : freeC ops cls m listed i = true) : freeA md ops cls listed i = true := by
  unfold freeC at hf
  unfold freeA
  split at hf
  · cases hf
  · rename_i oi hoi
    rw [hoi]
    refine List.all_eq_true.2 fun j hj => ?_
    have h1 := List.all_eq_true.1 hf j hj
    simp only [Bool.or_eq_true] at h1 ⊢
    rcases h1 with ((h1 | h1) | h1) | h1
    · exact .inl (.inl (.inl h1))
    · exact .inl (.inl (.inr h1))
    · exact .inl (.inr (claim_reach h (Array.getElem?_eq_some_iff.1 hoi).1 _ j (List.mem_range.1 hj) (List.mem_range.1 hj) h1))
    · exact .inr h1
def ordC (md : Region.Mode) (ops : Array Oper) (cls : Nat → Nat) (m : List Nat) : List Nat → Array Bool → Bool
  | [], listed => (Region.ready md ops listed).isEmpty
  | i :: r, listed => (if 2 ≤ cls i then decide (Region.ready md ops listed = [i]) else (Region.ready md ops listed).contains i && freeC ops cls m listed i) && ordC md ops cls m r (listed.setIfInBounds i true)
theorem ordC_B {m : List Nat} (h : claimB md ops m = true) : ∀ (r : List Nat) (listed : Array Bool), ordC md ops cls m r listed = true → ordB md ops cls r listed = true
  | [], listed, ho => ho
  | i :: r, listed, ho => by
    simp only [ordC, ordB, Bool.and_eq_true] at ho ⊢
    refine ⟨?_, ordC_B h r _ ho.2⟩
    by_cases h2 : 2 ≤ cls i
    · rw [if_pos h2] at ho ⊢; exact ho.1
    · rw [if_neg h2] at ho ⊢
      have h3 := ho.1
      simp only [Bool.and_eq_true] at h3 ⊢
      exact ⟨h3.1, freeC_A h h3.2⟩
end
section
variable {P : Program} {F : Frm} {τ : Nat → AV} {hp : List Blk} {N : Nat} {Q : Exit → AS → Prop} {id : Nat} {l : List Oper}
theorem ac_drawB (m c r : List Nat) (hm : P.follows .mixedOrders = true) (hB : (claimB .any l.toArray m && (ordC .any l.toArray (clsOf c) m r (Array.replicate l.toArray.size false) && Nat.beq r.length l.length)) = true)
    (h : WO P F l.toArray N (clsOf c) (fun τ' hp' => Q .normal ⟨τ', hp', N⟩) r τ hp) : AC P F (.region id l.toArray true) Q ⟨τ, hp, N⟩ := by
  simp only [Bool.and_eq_true] at hB
  refine ac_draw c r hm ?_ h
  simp only [Bool.and_eq_true]
  exact ⟨ordC_B hB.1 _ _ hB.2.1, hB.2.2⟩
end
section
variable {P : Program} {F : Frm} {d : Option Tmp} {ty : TypeId} {pos : String} {aft : Array Edge} {g : Option (Nat × Bool)} {ρ : Operand → AV} {hp : List Blk} {K : AV → List Blk → Prop}
/-- the sum of two counts -/
theorem zAn {t t' : TypeId} {x y : Operand} {a b : Nat} (h : K (.c (.lit (.int .i64 ((a + b : Nat) : Int)))) hp) (hx : ρ x = .c (.lit (.int .i64 (a : Nat))) := by exact rfl) (hy : ρ y = .c (.lit (.int .i64 (b : Nat))) := by exact rfl) (hb : a + b ≤ 9223372036854775807 := by first | omega | (dsimp only at *; omega)) : LO P F ⟨d, .binOp .add t x y t', ty, pos, aft, g⟩ ρ hp K :=
  lo_add hx hy (by rw [IntWalk.i64_in _ (by omega)]; omega) h
end
/-- the driver, for sums of counts -/
theorem gA {G G' : Prop} (h : G') (e : Hold G' → G := by
    intro h
    first | refine zNil ?_ | refine zOp ?_ | refine zOpn ?_ | refine zNo ?_ | refine zNon ?_ | refine zUn ?_ | refine zUnn ?_ | refine zYes ?_ | refine zYesn ?_ | (refine zkL ?_; first | refine zL1 ?_ | refine zL2 ?_ | refine zL3 ?_ | refine zLp ?_) | refine zM ?_ | (refine zkF ?_; first | refine zF1 ?_ | refine zF2 ?_ | refine zF3 ?_) | refine zA ?_ | (refine zkB ?_; first | refine zC5 ?_ | refine zC6 ?_ | refine zC1 ?_ | refine zC2 ?_ | refine zC3 ?_ | refine zC4 ?_ | refine zS5 ?_ | refine zS6 ?_ | refine zS1 ?_ | refine zS2 ?_ | refine zS3 ?_ | refine zS4 ?_ | refine zAn ?_ | refine zQ1 ?_ | refine zQ2 ?_ | refine zQ3 ?_ | refine zQ4 ?_ | refine zQ5 ?_ | refine zQ6 ?_) | (refine zkI ?_; first | refine zN3 ?_ | refine zN4 ?_) | refine zS ?_ | refine zPt ?_ | refine zPf ?_ | refine zE ?_ | refine zEA ?_ | refine zNot ?_ | refine zBd ?_ | refine zFn ?_ | refine zK1 ?_ | refine zK2 ?_ | refine zBs ?_ | refine ac_seq ?_ | refine ac_block ?_ | refine ac_region ?_ | refine ac_skip ?_ | refine ac_exit ?_ | refine ac_ret ?_ | refine zT ?_ | refine zF ?_
    repeat (first | refine zNil ?_ | refine zOp ?_ | refine zOpn ?_ | refine zNo ?_ | refine zNon ?_ | refine zUn ?_ | refine zUnn ?_ | refine zYes ?_ | refine zYesn ?_ | (refine zkL ?_; first | refine zL1 ?_ | refine zL2 ?_ | refine zL3 ?_ | refine zLp ?_) | refine zM ?_ | (refine zkF ?_; first | refine zF1 ?_ | refine zF2 ?_ | refine zF3 ?_) | refine zA ?_ | (refine zkB ?_; first | refine zC5 ?_ | refine zC6 ?_ | refine zC1 ?_ | refine zC2 ?_ | refine zC3 ?_ | refine zC4 ?_ | refine zS5 ?_ | refine zS6 ?_ | refine zS1 ?_ | refine zS2 ?_ | refine zS3 ?_ | refine zS4 ?_ | refine zAn ?_ | refine zQ1 ?_ | refine zQ2 ?_ | refine zQ3 ?_ | refine zQ4 ?_ | refine zQ5 ?_ | refine zQ6 ?_) | (refine zkI ?_; first | refine zN3 ?_ | refine zN4 ?_) | refine zS ?_ | refine zPt ?_ | refine zPf ?_ | refine zE ?_ | refine zEA ?_ | refine zNot ?_ | refine zBd ?_ | refine zFn ?_ | refine zK1 ?_ | refine zK2 ?_ | refine zBs ?_ | refine ac_seq ?_ | refine ac_block ?_ | refine ac_region ?_ | refine ac_skip ?_ | refine ac_exit ?_ | refine ac_ret ?_ | refine zT ?_ | refine zF ?_)
    exact h.out) : G := e ⟨h⟩
end Go.Proofs.YtllgibfmddihgaaDoor
