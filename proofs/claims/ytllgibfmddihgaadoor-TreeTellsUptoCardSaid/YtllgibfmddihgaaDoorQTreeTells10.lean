/-
  Texts of this proof, part 10: Tnd Tne Tnf Tng Tnh Tni Tnj Tnk.
-/
import Derived.Test.YtllgibfmddihgaaDoorQTreeTells9
import Derived.Lib.AppendStr
namespace Go.Proofs.YtllgibfmddihgaaDoor
open Go.RowKit
mutual
def V.binds : V → List ByteArray
  | .mk k _ t l => bif decide (k = 2) then [t] else bif decide (k = 6) then V.bindsAll l else []
def V.bindsAll : List V → List ByteArray
  | [] => []
  | v :: r => v.binds ++ V.bindsAll r
end
theorem V.bindsAll_eq : ∀ l : List V, V.bindsAll l = l.flatMap V.binds
  | [] => rfl
  | v :: l => by rw [V.bindsAll, V.bindsAll_eq l]; rfl
theorem binds_flat {f : V → Nat} : ∀ {l : List V}, (∀ a ∈ l, a.binds.length ≤ f a) → (l.flatMap V.binds).length ≤ (l.map f).sum
  | [], _ => Nat.le_refl _
  | a :: l, h => by
    have h1 := h a (by simp)
    have h2 := binds_flat (l := l) (fun x hx => h x (List.mem_cons_of_mem _ hx))
    rw [List.flatMap_cons, List.length_append, List.map_cons, List.sum_cons]
    omega
theorem V.binds_len (v : V) : v.binds.length ≤ v.nodes := by
  induction v using V.ind with
  | h k n t l ih =>
    have := binds_flat ih
    rw [V.binds, V.bindsAll_eq, V.nodes, V.nodesAll_sum]
    cases decide (k = 2) with
    | true => simp
    | false =>
      cases decide (k = 6) with
      | true => simp only [cond]; omega
      | false => simp
theorem binds_le (l : List V) : (l.flatMap V.binds).length ≤ (l.map V.nodes).sum := binds_flat fun a _ => a.binds_len
set_option maxRecDepth 100000 in
set_option maxHeartbeats 4000000 in
theorem bound_af (p : V) : p.nodes ≤ 1048576 → AF Tryd.prog 60 [p.t] (· = strRow p.binds) := by
  induction p using V.ind with
  | h k0 n0 t0 l ih =>
    intro hp
    rw [V.nodes, V.nodesAll_sum] at hp
    rw [V.binds, V.bindsAll_eq]
    refine af_enter tok Tryd.func60 Tryd.ntmps60 Tryd.results60 rfl (by kernel_rfl) rfl rfl fun F hX => ?_
    repeat (first | refine gG ?_ | refine zN1 (fun hlen => ?_) | refine zN2 (fun hlen => ?_) | refine zAl (fun _ => ?_) | refine zBf ?_ | refine zAp (fun _ => ?_))
    refine x_cond rfl (fun h0 => ?_) (fun h0 => ?_)
    · rw [h0]
      repeat (first | refine gG ?_ | refine zN1 (fun hlen => ?_) | refine zN2 (fun hlen => ?_) | refine zAl (fun _ => ?_) | refine zBx (fun _ => ?_) | refine zAp (fun _ => ?_))
      first | refine zR ?_ | refine zQ ?_
      rfl
    · rw [h0]
      repeat (first | refine gG ?_ | refine zN1 (fun hlen => ?_) | refine zN2 (fun hlen => ?_) | refine zAl (fun _ => ?_) | refine zBx (fun _ => ?_) | refine zAp (fun _ => ?_))
      refine x_cond rfl (fun h1 => ?_) (fun h1 => ?_)
      · rw [h1]
        dsimp only [cond]
        clear h0 h1
        repeat (first | refine gG ?_ | refine zN1 (fun hlen => ?_) | refine zN2 (fun hlen => ?_) | refine zAl (fun _ => ?_) | refine zBx (fun _ => ?_) | refine zAp (fun _ => ?_))
        refine x_own 3 9 1 rfl rfl rfl rfl rfl ?_
        refine x_loop [3, 5, 18, 19, 20, 21, 22, 23, 24, 25, 26] (fun y : Nat × Value => [(18, .c (.lit (.int .i64 (y.1 : Nat)))), (3, .own 0 y.2)]) (fun y => [.row y.2 9 1 ((l.take y.1).flatMap V.binds).length (((l.take y.1).flatMap V.binds).flatMap strTs)])
          (fun y => y.1 ≤ l.length) (fun y => l.length - y.1) (0, .slice none 0 0) (Nat.zero_le _) ⟨rfl, rfl, trivial⟩ rfl ?_
        rintro ⟨k, v⟩ hk
        dsimp only at hk ⊢
        repeat (first | refine gG ?_ | refine zN1 (fun hlen => ?_) | refine zN2 (fun hlen => ?_) | refine zAl (fun _ => ?_) | refine zBx (fun _ => ?_) | refine zAp (fun _ => ?_))
        refine x_cond rfl (fun h => ?_) (fun h => ?_)
        · have hk' : k < l.length := by simpa using h
          obtain ⟨a, ha⟩ := nth hk'
          have hb := binds_le (l.take (k + 1))
          have hs2 := tsum_le V.nodes l (k + 1)
          have hsn := flat_snoc' V.binds ha
          have hl1 : ((l.take (k + 1)).flatMap V.binds).length = ((l.take k).flatMap V.binds).length + a.binds.length := by rw [hsn, List.length_append]
          have hc1 : ((l.take (k + 1)).flatMap V.binds).flatMap strTs = ((l.take k).flatMap V.binds).flatMap strTs ++ a.binds.flatMap strTs := by rw [hsn, List.flatMap_append]
          have hc := ih a (List.mem_of_getElem? ha) (by have := sum_mem' V.nodes (List.mem_of_getElem? ha); omega)
          have hat := V.at ha
          clear h ha ih hsn
          generalize a.binds = ab at *
          obtain ⟨ka, na, ta, la⟩ := a
          repeat (first | refine gG ?_ | refine zN1 (fun hlen => ?_) | refine zN2 (fun hlen => ?_) | refine zAl (fun _ => ?_) | refine zBx (fun _ => ?_) | refine zAp (fun _ => ?_))
          refine zIx (k) (hk') ?_
          repeat (first | refine gG ?_ | refine zN1 (fun hlen => ?_) | refine zN2 (fun hlen => ?_) | refine zAl (fun _ => ?_) | refine zBx (fun _ => ?_) | refine zAp (fun _ => ?_))
          refine zEl (hat) (V.ts_len _) ?_
          repeat (first | refine gG ?_ | refine zN1 (fun hlen => ?_) | refine zN2 (fun hlen => ?_) | refine zAl (fun _ => ?_) | refine zBx (fun _ => ?_) | refine zAp (fun _ => ?_))
          refine zCall (hc) ?_
          rintro _ rfl
          repeat (first | refine gG ?_ | refine zN1 (fun hlen => ?_) | refine zN2 (fun hlen => ?_) | refine zAl (fun _ => ?_) | refine zBx (fun _ => ?_) | refine zAp (fun _ => ?_))
          exact ⟨(k + 1, _), hk', by simp only; omega, x_wkd 1 ⟨rfl, rfl, trivial⟩ (by simp only [hl1, hc1]; rfl) (by repeat (first | exact ag_refl | refine ag_upd rfl ?_ | refine ag_at rfl rfl ?_))⟩
        · have hk' : k = l.length := by
            have : ¬ k < l.length := by simpa using h
            omega
          subst hk'
          clear h
          rw [List.take_length]
          repeat (first | refine gG ?_ | refine zN1 (fun hlen => ?_) | refine zN2 (fun hlen => ?_) | refine zAl (fun _ => ?_) | refine zBx (fun _ => ?_) | refine zAp (fun _ => ?_))
          first | refine zR ?_ | refine zQ ?_
          rfl
      · rw [h1]
        dsimp only [cond]
        repeat (first | refine gG ?_ | refine zN1 (fun hlen => ?_) | refine zN2 (fun hlen => ?_) | refine zAl (fun _ => ?_) | refine zBx (fun _ => ?_) | refine zAp (fun _ => ?_))
        first | refine zR (ts := [strRow []]) ?_ | refine zQ (ts := [strRow []]) ?_
        rfl
set_option maxRecDepth 100000 in
set_option maxHeartbeats 4000000 in
theorem namesOf_af (p : V) : p.nodes ≤ 1048576 → AF Tryd.prog 61 [p.t] (· = strRow p.binds) := by
  induction p using V.ind with
  | h k0 n0 t0 l ih =>
    intro hp
    rw [V.nodes, V.nodesAll_sum] at hp
    rw [V.binds, V.bindsAll_eq]
    refine af_enter tok Tryd.func61 Tryd.ntmps61 Tryd.results61 rfl (by kernel_rfl) rfl rfl fun F hX => ?_
    repeat (first | refine gG ?_ | refine zN1 (fun hlen => ?_) | refine zN2 (fun hlen => ?_) | refine zAl (fun _ => ?_) | refine zBf ?_ | refine zAp (fun _ => ?_))
    refine x_cond rfl (fun h0 => ?_) (fun h0 => ?_)
    · rw [h0]
      repeat (first | refine gG ?_ | refine zN1 (fun hlen => ?_) | refine zN2 (fun hlen => ?_) | refine zAl (fun _ => ?_) | refine zBx (fun _ => ?_) | refine zAp (fun _ => ?_))
      first | refine zR ?_ | refine zQ ?_
      rfl
    · rw [h0]
      repeat (first | refine gG ?_ | refine zN1 (fun hlen => ?_) | refine zN2 (fun hlen => ?_) | refine zAl (fun _ => ?_) | refine zBx (fun _ => ?_) | refine zAp (fun _ => ?_))
      refine x_cond rfl (fun h1 => ?_) (fun h1 => ?_)
      · rw [h1]
        dsimp only [cond]
        clear h0 h1
        repeat (first | refine gG ?_ | refine zN1 (fun hlen => ?_) | refine zN2 (fun hlen => ?_) | refine zAl (fun _ => ?_) | refine zBx (fun _ => ?_) | refine zAp (fun _ => ?_))
        refine x_own 3 9 1 rfl rfl rfl rfl rfl ?_
        refine x_loop [3, 5, 18, 19, 20, 21, 22, 23, 24, 25, 26] (fun y : Nat × Value => [(18, .c (.lit (.int .i64 (y.1 : Nat)))), (3, .own 0 y.2)]) (fun y => [.row y.2 9 1 ((l.take y.1).flatMap V.binds).length (((l.take y.1).flatMap V.binds).flatMap strTs)])
          (fun y => y.1 ≤ l.length) (fun y => l.length - y.1) (0, .slice none 0 0) (Nat.zero_le _) ⟨rfl, rfl, trivial⟩ rfl ?_
        rintro ⟨k, v⟩ hk
        dsimp only at hk ⊢
        repeat (first | refine gG ?_ | refine zN1 (fun hlen => ?_) | refine zN2 (fun hlen => ?_) | refine zAl (fun _ => ?_) | refine zBx (fun _ => ?_) | refine zAp (fun _ => ?_))
        refine x_cond rfl (fun h => ?_) (fun h => ?_)
        · have hk' : k < l.length := by simpa using h
          obtain ⟨a, ha⟩ := nth hk'
          have hb := binds_le (l.take (k + 1))
          have hs2 := tsum_le V.nodes l (k + 1)
          have hsn := flat_snoc' V.binds ha
          have hl1 : ((l.take (k + 1)).flatMap V.binds).length = ((l.take k).flatMap V.binds).length + a.binds.length := by rw [hsn, List.length_append]
          have hc1 : ((l.take (k + 1)).flatMap V.binds).flatMap strTs = ((l.take k).flatMap V.binds).flatMap strTs ++ a.binds.flatMap strTs := by rw [hsn, List.flatMap_append]
          have hc := ih a (List.mem_of_getElem? ha) (by have := sum_mem' V.nodes (List.mem_of_getElem? ha); omega)
          have hat := V.at ha
          clear h ha ih hsn
          generalize a.binds = ab at *
          obtain ⟨ka, na, ta, la⟩ := a
          repeat (first | refine gG ?_ | refine zN1 (fun hlen => ?_) | refine zN2 (fun hlen => ?_) | refine zAl (fun _ => ?_) | refine zBx (fun _ => ?_) | refine zAp (fun _ => ?_))
          refine zIx (k) (hk') ?_
          repeat (first | refine gG ?_ | refine zN1 (fun hlen => ?_) | refine zN2 (fun hlen => ?_) | refine zAl (fun _ => ?_) | refine zBx (fun _ => ?_) | refine zAp (fun _ => ?_))
          refine zEl (hat) (V.ts_len _) ?_
          repeat (first | refine gG ?_ | refine zN1 (fun hlen => ?_) | refine zN2 (fun hlen => ?_) | refine zAl (fun _ => ?_) | refine zBx (fun _ => ?_) | refine zAp (fun _ => ?_))
          refine zCall (hc) ?_
          rintro _ rfl
          repeat (first | refine gG ?_ | refine zN1 (fun hlen => ?_) | refine zN2 (fun hlen => ?_) | refine zAl (fun _ => ?_) | refine zBx (fun _ => ?_) | refine zAp (fun _ => ?_))
          exact ⟨(k + 1, _), hk', by simp only; omega, x_wkd 1 ⟨rfl, rfl, trivial⟩ (by simp only [hl1, hc1]; rfl) (by repeat (first | exact ag_refl | refine ag_upd rfl ?_ | refine ag_at rfl rfl ?_))⟩
        · have hk' : k = l.length := by
            have : ¬ k < l.length := by simpa using h
            omega
          subst hk'
          clear h
          rw [List.take_length]
          repeat (first | refine gG ?_ | refine zN1 (fun hlen => ?_) | refine zN2 (fun hlen => ?_) | refine zAl (fun _ => ?_) | refine zBx (fun _ => ?_) | refine zAp (fun _ => ?_))
          first | refine zR ?_ | refine zQ ?_
          rfl
      · rw [h1]
        dsimp only [cond]
        repeat (first | refine gG ?_ | refine zN1 (fun hlen => ?_) | refine zN2 (fun hlen => ?_) | refine zAl (fun _ => ?_) | refine zBx (fun _ => ?_) | refine zAp (fun _ => ?_))
        first | refine zR (ts := [strRow []]) ?_ | refine zQ (ts := [strRow []]) ?_
        rfl
end Go.Proofs.YtllgibfmddihgaaDoor
namespace Go.Proofs.YtllgibfmddihgaaDoor
open Go.RowKit
/-- a row of expressions of the caller's own -/
def GrewX (l : List Ex) (r : AV) (hs : List Blk) : Prop := ∃ v', r = .own 0 v' ∧ hs = [.row v' 40 8 l.length (Ex.all l)]
theorem cloneEx_ag (l : List Ex) (hl : l.length ≤ 1048576) : AG Tryd.prog 65 [.c (Ex.row l)] [] (GrewX l) := by
  refine ag_enter 1 tok Tryd.func65 Tryd.ntmps65 Tryd.results65 rfl (by kernel_rfl) rfl fun F => ?_
  repeat (first | refine gG ?_ | refine zAp (fun _ => ?_))
  refine zNs (fun b hb => ?_)
  cases b
  · repeat (first | refine gX ?_ | refine zAp (fun _ => ?_))
    refine zBo (fun _ => ?_)
    repeat (first | refine gG ?_ | refine zAp (fun _ => ?_))
    refine zG ?_
    exact ⟨_, rfl, by simp only [List.nil_append, Nat.zero_add]⟩
  · have h0 := hb rfl
    have : l = [] := List.eq_nil_of_length_eq_zero h0
    subst this
    repeat (first | refine gO ?_ | refine ac_seq ?_ | refine ac_block ?_ | refine ac_region ?_ | refine ac_skip ?_ | refine zT ?_)
    refine x_own 2 40 8 rfl rfl rfl rfl rfl ?_
    repeat (first | refine gG ?_ | refine zAp (fun _ => ?_))
    refine zG ?_
    exact ⟨_, rfl, rfl⟩
set_option maxRecDepth 100000 in
set_option maxHeartbeats 4000000 in
theorem parts_af (e : Ex) (he : e.nexts.length ≤ 1048576) : AF Tryd.prog 64 [e.t] (· = Ex.row e.nexts) := by
  obtain ⟨k0, n0, t0, ns0, ys0, l, rs, p0⟩ := e
  simp only [Ex.nexts, Ex.args, Ex.arms] at he ⊢
  have hll : l.length + rs.length ≤ 1048576 := by simpa using he
  have hC := cloneEx_ag l (by omega)
  refine af_enter tok Tryd.func64 Tryd.ntmps64 Tryd.results64 rfl (by kernel_rfl) rfl rfl fun F hX => ?_
  repeat (first | refine gG ?_ | refine zN1 (fun hlen => ?_) | refine zN2 (fun hlen => ?_) | refine zAl (fun _ => ?_) | refine zBf ?_ | refine zAp (fun _ => ?_))
  refine zCallG [] hC ?_
  rintro _ _ ⟨v', rfl, rfl⟩
  refine ⟨.own 0 v', _, re_own, rfl, rfl, ?_⟩
  repeat (first | refine gG ?_ | refine zN1 (fun hlen => ?_) | refine zN2 (fun hlen => ?_) | refine zAl (fun _ => ?_) | refine zBx (fun _ => ?_) | refine zAp (fun _ => ?_))
  refine x_loop [3, 5, 12, 13, 14, 15, 16, 17, 18, 19, 20, 21] (fun y : Nat × Value => [(12, .c (.lit (.int .i64 (y.1 : Nat)))), (3, .own 0 y.2)]) (fun y => [.row y.2 40 8 (l ++ (rs.take y.1).map Ar.body).length (Ex.all (l ++ (rs.take y.1).map Ar.body))])
    (fun y => y.1 ≤ rs.length) (fun y => rs.length - y.1) (0, v') (Nat.zero_le _) ⟨rfl, rfl, trivial⟩ (by first | (rw [grown0]; done) | (rw [grown0]; rfl)) ?_
  rintro ⟨j, u⟩ hj
  dsimp only at hj ⊢
  repeat (first | refine gG ?_ | refine zN1 (fun hlen => ?_) | refine zN2 (fun hlen => ?_) | refine zAl (fun _ => ?_) | refine zBx (fun _ => ?_) | refine zAp (fun _ => ?_))
  refine x_cond rfl (fun h => ?_) (fun h => ?_)
  · have hj' : j < rs.length := by simpa using h
    obtain ⟨b, hb⟩ := nth hj'
    have hle := grown_le l Ar.body rs (j + 1)
    have hl1 := grown_len l Ar.body hb
    have hc1 := grown_all l Ar.body hb
    clear h
    repeat (first | refine gG ?_ | refine zN1 (fun hlen => ?_) | refine zN2 (fun hlen => ?_) | refine zAl (fun _ => ?_) | refine zBx (fun _ => ?_) | refine zAp (fun _ => ?_))
    refine zIx (j) (hj') ?_
    repeat (first | refine gG ?_ | refine zN1 (fun hlen => ?_) | refine zN2 (fun hlen => ?_) | refine zAl (fun _ => ?_) | refine zBx (fun _ => ?_) | refine zAp (fun _ => ?_))
    refine zEl (Ar.at hb) (Ar.ts_len b) ?_
    obtain ⟨⟨kp, np, tp, lp⟩, ⟨kb, nb, tb, nsb, ysb, lb, rsb, pb⟩⟩ := b
    repeat (first | refine gG ?_ | refine zN1 (fun hlen => ?_) | refine zN2 (fun hlen => ?_) | refine zAl (fun _ => ?_) | refine zBx (fun _ => ?_) | refine zAp (fun _ => ?_))
    exact ⟨(j + 1, _), hj', by simp only; omega, x_wkd 1 ⟨rfl, rfl, trivial⟩ (by simp only [hl1, hc1]; rfl) (by repeat (first | exact ag_refl | refine ag_upd rfl ?_ | refine ag_at rfl rfl ?_))⟩
  · have hj' : j = rs.length := by
      have : ¬ j < rs.length := by simpa using h
      omega
    subst hj'
    clear h
    rw [List.take_length]
    repeat (first | refine gG ?_ | refine zN1 (fun hlen => ?_) | refine zN2 (fun hlen => ?_) | refine zAl (fun _ => ?_) | refine zBx (fun _ => ?_) | refine zAp (fun _ => ?_))
    first | refine zR ?_ | refine zQ ?_
    rfl
end Go.Proofs.YtllgibfmddihgaaDoor
namespace Go.Proofs.YtllgibfmddihgaaDoor
open Go.RowKit
theorem all_len (l : List Ex) : (Ex.all l).length = l.length * 8 := by
  induction l with
  | nil => rfl
  | cons a l ih => rw [Ex.all, List.length_append, ih, Ex.ts_len, List.length_cons]; omega
theorem spl_tail (acc : List Ex) (z us : List T) (hz : z.length = 8) (hu : us.length = 8) : spl (Ex.all acc ++ z) (acc.length * 8) us = Ex.all acc ++ us := by
  have hl := all_len acc
  rw [spl_eq _ _ _ (by rw [List.length_append]; omega), List.take_append_of_le_length (by omega), List.take_of_length_le (by omega), List.drop_of_length_le (by rw [List.length_append]; omega), List.append_nil]
def arWalk (r : Ar) : List Ex := r.body.walk
theorem arWalk_eq (rs : List Ar) : (rs.map Ar.body).flatMap Ex.walk = rs.flatMap arWalk := by
  induction rs with
  | nil => rfl
  | cons a l ih => simp only [List.map_cons, List.flatMap_cons, ih]; rfl
set_option maxRecDepth 100000 in
set_option maxHeartbeats 4000000 in
theorem walk1_ag (e : Ex) : ∀ (b1 b2 : Nat) (v : Value) (acc : List Ex), acc.length + e.walk.length ≤ 1048576 →
    AG Tryd.prog 135 [.c e.t, .ptr 0 b1 0, .ptr 1 b2 0] [.box b1 31 [.own 2 v], .box b2 203 [.fn (.func 135) [.ptr 0 b1 0, .ptr 1 b2 0]], .row v 40 8 acc.length (Ex.all acc)]
      (fun r hs => ∃ v', r = .tup [] ∧ hs = [.box b1 31 [.own 2 v'], .box b2 203 [.fn (.func 135) [.ptr 0 b1 0, .ptr 1 b2 0]], .row v' 40 8 (acc ++ e.walk).length (Ex.all (acc ++ e.walk))]) := by
  induction e using Ex.ind with
  | h k n t ns ys l rs p ih ihr =>
    intro b1 b2 v acc hb
    have hall : ((acc ++ [Ex.mk k n t ns ys l rs p]) ++ l.flatMap Ex.walk) ++ rs.flatMap arWalk = acc ++ (Ex.mk k n t ns ys l rs p).walk := by
      rw [Ex.walk_eq, Ex.nexts, List.flatMap_append, Ex.args, Ex.arms, arWalk_eq]
      simp only [List.append_assoc, List.cons_append, List.nil_append]
    have hbl : ((acc ++ [Ex.mk k n t ns ys l rs p]) ++ l.flatMap Ex.walk).length + (rs.flatMap arWalk).length ≤ 1048576 := by rw [← List.length_append, hall, List.length_append]; exact hb
    have hbl1 : (acc ++ [Ex.mk k n t ns ys l rs p]).length + (l.flatMap Ex.walk).length ≤ 1048576 := by rw [List.length_append] at hbl; omega
    have hac : acc.length + 1 ≤ 1048576 := by simp only [List.length_append, List.length_cons, List.length_nil] at hbl1; omega
    have hr : ∀ r ∈ rs, ∀ (b1 b2 : Nat) (v : Value) (acc : List Ex), acc.length + (arWalk r).length ≤ 1048576 → AG Tryd.prog 135 [.c r.body.t, .ptr 0 b1 0, .ptr 1 b2 0] [.box b1 31 [.own 2 v], .box b2 203 [.fn (.func 135) [.ptr 0 b1 0, .ptr 1 b2 0]], .row v 40 8 acc.length (Ex.all acc)]
      (fun q hs => ∃ v', q = .tup [] ∧ hs = [.box b1 31 [.own 2 v'], .box b2 203 [.fn (.func 135) [.ptr 0 b1 0, .ptr 1 b2 0]], .row v' 40 8 (acc ++ arWalk r).length (Ex.all (acc ++ arWalk r))]) := fun r hr => by
      obtain ⟨q, x⟩ := r
      exact ihr _ hr q x rfl
    have e1 : (acc ++ [Ex.mk k n t ns ys l rs p]).length = acc.length + 1 := by simp
    have e2 : Ex.all (acc ++ [Ex.mk k n t ns ys l rs p]) = Ex.all acc ++ (Ex.mk k n t ns ys l rs p).ts := by rw [Ex.all_app, Ex.all_one]
    have hble : acc.length * 8 + 8 ≤ (Ex.all acc ++ ([.lit (.int .i64 0), .lit (.int .i64 0), .lit (.string ⟨#[]⟩), .lit (.slice none 0 0), .lit (.slice none 0 0), .lit (.slice none 0 0), .lit (.slice none 0 0), .lit (.int .i64 0)] : List T)).length := by rw [List.length_append, all_len]; simp
    clear ihr hb
    refine ag_enter 3 tok Tryd.func135 Tryd.ntmps135 Tryd.results135 rfl (by kernel_rfl) rfl fun F => ?_
    repeat (first | refine gG ?_ | refine zN1 (fun hlen => ?_) | refine zN2 (fun hlen => ?_) | refine zAl (fun _ => ?_) | refine zBf ?_ | refine zAp (fun _ => ?_))
    refine x_join [8, 9, 10, 11, 12, 13] (fun _ : Value => []) (fun y : Value => [.box b1 31 [.own 2 y], .box b2 203 [.fn (.func 135) [.ptr 0 b1 0, .ptr 1 b2 0]], .row y 40 8 (acc ++ [Ex.mk k n t ns ys l rs p]).length (Ex.all (acc ++ [Ex.mk k n t ns ys l rs p]))]) (fun y => ?_) ?_
    rotate_left
    · skip
      refine ac_drawT [1, 1, 1, 1, 2, 2, 2, 2] (.fork [0, 1, 2, 3, 4] 5 (.fork [] 6 (.fin [7]) 7 (.fin [6])) 7 (.fin [5, 6])) (by kernel_rfl) (by kernel_rfl) ?_
      refine wt_fork ?_
      refine gW ?_
      apply w_q; (focus exact rfl); (focus exact rfl); focus (intro _; (refine zEx ?_; refine zBs ?_); exact det_refl)
      apply w_l; (focus exact rfl); (focus exact rfl); (first | (refine zkL ?_; first | refine zL1 ?_ | refine zL2 ?_ | refine zL3 ?_ | refine zLp ?_) | refine zM ?_ | (refine zkF ?_; first | refine zF1 ?_ | refine zF2 ?_ | refine zF3 ?_) | refine zA ?_ | (refine zkB ?_; first | refine zC5 ?_ | refine zC6 ?_ | refine zC1 ?_ | refine zC2 ?_ | refine zC3 ?_ | refine zC4 ?_ | refine zS5 ?_ | refine zS6 ?_ | refine zS1 ?_ | refine zS2 ?_ | refine zS3 ?_ | refine zS4 ?_ | refine zInc ?_ | refine zQ1 ?_ | refine zQ2 ?_ | refine zQ3 ?_ | refine zQ4 ?_ | refine zQ5 ?_ | refine zQ6 ?_) | (refine zkI ?_; first | refine zN1 (fun hlen => ?_) | refine zN2 (fun hlen => ?_) | refine zN3 ?_ | refine zN4 ?_ | refine zAp (fun _ => ?_)) | refine zS ?_ | refine zAl (fun _ => ?_) | refine zBx (fun _ => ?_) | refine zPt ?_ | refine zPf ?_ | refine zE ?_ | refine zEA ?_ | refine zNot ?_ | refine zBd ?_ | refine zBs ?_ | refine zFn ?_ | refine zK1 ?_ | refine zK2 ?_)
      refine w_nil ?_
      refine ⟨?_, ?_⟩
      · apply w_l; (focus exact rfl); (focus exact rfl); (refine zIxo acc.length (show acc.length < acc.length + 1 by omega) ?_)
        refine w_nil ?_
        refine wt_fork ?_
        refine w_nil ?_
        refine ⟨?_, ?_⟩
        · apply w_l; (focus exact rfl); (focus exact rfl); (refine zSe (spl_tail acc [.lit (.int .i64 0), .lit (.int .i64 0), .lit (.string ⟨#[]⟩), .lit (.slice none 0 0), .lit (.slice none 0 0), .lit (.slice none 0 0), .lit (.slice none 0 0), .lit (.int .i64 0)] (Ex.ts (Ex.mk k n t ns ys l rs p)) rfl rfl) hble ?_)
          refine w_nil ?_
          refine wt_fin ?_
          apply w_l; (focus exact rfl); (focus exact rfl); (first | (refine zkL ?_; first | refine zL1 ?_ | refine zL2 ?_ | refine zL3 ?_ | refine zLp ?_) | refine zM ?_ | (refine zkF ?_; first | refine zF1 ?_ | refine zF2 ?_ | refine zF3 ?_) | refine zA ?_ | (refine zkB ?_; first | refine zC5 ?_ | refine zC6 ?_ | refine zC1 ?_ | refine zC2 ?_ | refine zC3 ?_ | refine zC4 ?_ | refine zS5 ?_ | refine zS6 ?_ | refine zS1 ?_ | refine zS2 ?_ | refine zS3 ?_ | refine zS4 ?_ | refine zInc ?_ | refine zQ1 ?_ | refine zQ2 ?_ | refine zQ3 ?_ | refine zQ4 ?_ | refine zQ5 ?_ | refine zQ6 ?_) | (refine zkI ?_; first | refine zN1 (fun hlen => ?_) | refine zN2 (fun hlen => ?_) | refine zN3 ?_ | refine zN4 ?_ | refine zAp (fun _ => ?_)) | refine zS ?_ | refine zAl (fun _ => ?_) | refine zBx (fun _ => ?_) | refine zPt ?_ | refine zPf ?_ | refine zE ?_ | refine zEA ?_ | refine zNot ?_ | refine zBd ?_ | refine zBs ?_ | refine zFn ?_ | refine zK1 ?_ | refine zK2 ?_)
          refine w_nil ?_
          exact ⟨_, x_wkd 3 trivial (by simp only [e1, e2]; rfl) (by repeat (first | exact ag_refl | refine ag_upd rfl ?_ | refine ag_at rfl rfl ?_))⟩
        · apply w_l; (focus exact rfl); (focus exact rfl); (first | (refine zkL ?_; first | refine zL1 ?_ | refine zL2 ?_ | refine zL3 ?_ | refine zLp ?_) | refine zM ?_ | (refine zkF ?_; first | refine zF1 ?_ | refine zF2 ?_ | refine zF3 ?_) | refine zA ?_ | (refine zkB ?_; first | refine zC5 ?_ | refine zC6 ?_ | refine zC1 ?_ | refine zC2 ?_ | refine zC3 ?_ | refine zC4 ?_ | refine zS5 ?_ | refine zS6 ?_ | refine zS1 ?_ | refine zS2 ?_ | refine zS3 ?_ | refine zS4 ?_ | refine zInc ?_ | refine zQ1 ?_ | refine zQ2 ?_ | refine zQ3 ?_ | refine zQ4 ?_ | refine zQ5 ?_ | refine zQ6 ?_) | (refine zkI ?_; first | refine zN1 (fun hlen => ?_) | refine zN2 (fun hlen => ?_) | refine zN3 ?_ | refine zN4 ?_ | refine zAp (fun _ => ?_)) | refine zS ?_ | refine zAl (fun _ => ?_) | refine zBx (fun _ => ?_) | refine zPt ?_ | refine zPf ?_ | refine zE ?_ | refine zEA ?_ | refine zNot ?_ | refine zBd ?_ | refine zBs ?_ | refine zFn ?_ | refine zK1 ?_ | refine zK2 ?_)
          refine w_nil ?_
          refine wt_fin ?_
          apply w_l; (focus exact rfl); (focus exact rfl); (refine zSe (spl_tail acc [.lit (.int .i64 0), .lit (.int .i64 0), .lit (.string ⟨#[]⟩), .lit (.slice none 0 0), .lit (.slice none 0 0), .lit (.slice none 0 0), .lit (.slice none 0 0), .lit (.int .i64 0)] (Ex.ts (Ex.mk k n t ns ys l rs p)) rfl rfl) hble ?_)
          refine w_nil ?_
          exact ⟨_, x_wkd 3 trivial (by simp only [e1, e2]; rfl) (by repeat (first | exact ag_refl | refine ag_upd rfl ?_ | refine ag_at rfl rfl ?_))⟩
      · apply w_l; (focus exact rfl); (focus exact rfl); (first | (refine zkL ?_; first | refine zL1 ?_ | refine zL2 ?_ | refine zL3 ?_ | refine zLp ?_) | refine zM ?_ | (refine zkF ?_; first | refine zF1 ?_ | refine zF2 ?_ | refine zF3 ?_) | refine zA ?_ | (refine zkB ?_; first | refine zC5 ?_ | refine zC6 ?_ | refine zC1 ?_ | refine zC2 ?_ | refine zC3 ?_ | refine zC4 ?_ | refine zS5 ?_ | refine zS6 ?_ | refine zS1 ?_ | refine zS2 ?_ | refine zS3 ?_ | refine zS4 ?_ | refine zInc ?_ | refine zQ1 ?_ | refine zQ2 ?_ | refine zQ3 ?_ | refine zQ4 ?_ | refine zQ5 ?_ | refine zQ6 ?_) | (refine zkI ?_; first | refine zN1 (fun hlen => ?_) | refine zN2 (fun hlen => ?_) | refine zN3 ?_ | refine zN4 ?_ | refine zAp (fun _ => ?_)) | refine zS ?_ | refine zAl (fun _ => ?_) | refine zBx (fun _ => ?_) | refine zPt ?_ | refine zPf ?_ | refine zE ?_ | refine zEA ?_ | refine zNot ?_ | refine zBd ?_ | refine zBs ?_ | refine zFn ?_ | refine zK1 ?_ | refine zK2 ?_)
        refine w_nil ?_
        refine wt_fin ?_
        apply w_l; (focus exact rfl); (focus exact rfl); (refine zIxo acc.length (show acc.length < acc.length + 1 by omega) ?_)
        apply w_l; (focus exact rfl); (focus exact rfl); (refine zSe (spl_tail acc [.lit (.int .i64 0), .lit (.int .i64 0), .lit (.string ⟨#[]⟩), .lit (.slice none 0 0), .lit (.slice none 0 0), .lit (.slice none 0 0), .lit (.slice none 0 0), .lit (.int .i64 0)] (Ex.ts (Ex.mk k n t ns ys l rs p)) rfl rfl) hble ?_)
        refine w_nil ?_
        exact ⟨_, x_wkd 3 trivial (by simp only [e1, e2]; rfl) (by repeat (first | exact ag_refl | refine ag_upd rfl ?_ | refine ag_at rfl rfl ?_))⟩
    · clear e1 e2 hble hac
      repeat (first | refine gG ?_ | refine zN1 (fun hlen => ?_) | refine zN2 (fun hlen => ?_) | refine zAl (fun _ => ?_) | refine zBx (fun _ => ?_) | refine zAp (fun _ => ?_))
      refine x_loop [5, 17, 18, 19, 20, 21, 22, 23, 24] (fun z : Nat × Value => [(17, .c (.lit (.int .i64 (z.1 : Nat))))]) (fun z => [.box b1 31 [.own 2 z.2], .box b2 203 [.fn (.func 135) [.ptr 0 b1 0, .ptr 1 b2 0]], .row z.2 40 8 ((acc ++ [Ex.mk k n t ns ys l rs p]) ++ (l.take z.1).flatMap Ex.walk).length (Ex.all ((acc ++ [Ex.mk k n t ns ys l rs p]) ++ (l.take z.1).flatMap Ex.walk))])
        (fun z => z.1 ≤ l.length) (fun z => l.length - z.1) (0, y) (Nat.zero_le _) ⟨rfl, trivial⟩ (by simp only [List.take_zero, List.flatMap_nil, List.append_nil]; try rfl) ?_
      rintro ⟨j, u⟩ hj
      dsimp only at hj ⊢
      repeat (first | refine gG ?_ | refine zN1 (fun hlen => ?_) | refine zN2 (fun hlen => ?_) | refine zAl (fun _ => ?_) | refine zBx (fun _ => ?_) | refine zAp (fun _ => ?_))
      refine x_cond rfl (fun h => ?_) (fun h => ?_)
      · have hj' : j < l.length := by simpa using h
        obtain ⟨a, ha⟩ := nth hj'
        have hle := flatl_le Ex.walk l (j + 1)
        have hsn := flat_snoc' Ex.walk ha
        have hnx : (acc ++ [Ex.mk k n t ns ys l rs p]) ++ (l.take (j + 1)).flatMap Ex.walk = ((acc ++ [Ex.mk k n t ns ys l rs p]) ++ (l.take j).flatMap Ex.walk) ++ Ex.walk a := by rw [hsn]; simp only [List.append_assoc]
        have hc := ih a (List.mem_of_getElem? ha) b1 b2 u ((acc ++ [Ex.mk k n t ns ys l rs p]) ++ (l.take j).flatMap Ex.walk) (by rw [← List.length_append, ← hnx, List.length_append]; omega)
        have hat := Ex.at ha
        clear h hsn hle
        obtain ⟨kb, nb, tb, nsb, ysb, lb, rsb, pb⟩ := a
        repeat (first | refine gG ?_ | refine zN1 (fun hlen => ?_) | refine zN2 (fun hlen => ?_) | refine zAl (fun _ => ?_) | refine zBx (fun _ => ?_) | refine zAp (fun _ => ?_))
        refine zIx (j) (hj') ?_
        repeat (first | refine gG ?_ | refine zN1 (fun hlen => ?_) | refine zN2 (fun hlen => ?_) | refine zAl (fun _ => ?_) | refine zBx (fun _ => ?_) | refine zAp (fun _ => ?_))
        refine zEl (hat) (Ex.ts_len _) ?_
        repeat (first | refine gG ?_ | refine zN1 (fun hlen => ?_) | refine zN2 (fun hlen => ?_) | refine zAl (fun _ => ?_) | refine zBx (fun _ => ?_) | refine zAp (fun _ => ?_))
        refine zCallG [0, 1, 2] hc ?_
        rintro _ _ ⟨v', rfl, rfl⟩
        refine ⟨.tup [], _, re_refl, rfl, rfl, ?_⟩
        repeat (first | refine gG ?_ | refine zN1 (fun hlen => ?_) | refine zN2 (fun hlen => ?_) | refine zAl (fun _ => ?_) | refine zBx (fun _ => ?_) | refine zAp (fun _ => ?_))
        exact ⟨(j + 1, v'), hj', by simp only; omega, x_wkd 3 ⟨rfl, trivial⟩ (by simp only [hnx]; rfl) (by repeat (first | exact ag_refl | refine ag_upd rfl ?_ | refine ag_at rfl rfl ?_))⟩
      · have hj' : j = l.length := by
          have : ¬ j < l.length := by simpa using h
          omega
        subst hj'
        clear h
        rw [List.take_length]
        repeat (first | refine gG ?_ | refine zN1 (fun hlen => ?_) | refine zN2 (fun hlen => ?_) | refine zAl (fun _ => ?_) | refine zBx (fun _ => ?_) | refine zAp (fun _ => ?_))
        refine x_loop [7, 28, 29, 30, 31, 32, 33, 34, 35, 36] (fun z : Nat × Value => [(28, .c (.lit (.int .i64 (z.1 : Nat))))]) (fun z => [.box b1 31 [.own 2 z.2], .box b2 203 [.fn (.func 135) [.ptr 0 b1 0, .ptr 1 b2 0]], .row z.2 40 8 (((acc ++ [Ex.mk k n t ns ys l rs p]) ++ l.flatMap Ex.walk) ++ (rs.take z.1).flatMap arWalk).length (Ex.all (((acc ++ [Ex.mk k n t ns ys l rs p]) ++ l.flatMap Ex.walk) ++ (rs.take z.1).flatMap arWalk))])
          (fun z => z.1 ≤ rs.length) (fun z => rs.length - z.1) (0, _) (Nat.zero_le _) ⟨rfl, trivial⟩ (by simp only [List.take_zero, List.flatMap_nil, List.append_nil]; try rfl) ?_
        rintro ⟨j, u⟩ hj
        dsimp only at hj ⊢
        repeat (first | refine gG ?_ | refine zN1 (fun hlen => ?_) | refine zN2 (fun hlen => ?_) | refine zAl (fun _ => ?_) | refine zBx (fun _ => ?_) | refine zAp (fun _ => ?_))
        refine x_cond rfl (fun h => ?_) (fun h => ?_)
        · have hj' : j < rs.length := by simpa using h
          obtain ⟨a, ha⟩ := nth hj'
          have hle := flatl_le arWalk rs (j + 1)
          have hsn := flat_snoc' arWalk ha
          have hnx : ((acc ++ [Ex.mk k n t ns ys l rs p]) ++ l.flatMap Ex.walk) ++ (rs.take (j + 1)).flatMap arWalk = (((acc ++ [Ex.mk k n t ns ys l rs p]) ++ l.flatMap Ex.walk) ++ (rs.take j).flatMap arWalk) ++ arWalk a := by rw [hsn]; simp only [List.append_assoc]
          have hc := hr a (List.mem_of_getElem? ha) b1 b2 u (((acc ++ [Ex.mk k n t ns ys l rs p]) ++ l.flatMap Ex.walk) ++ (rs.take j).flatMap arWalk) (by rw [← List.length_append, ← hnx, List.length_append]; omega)
          have hat := Ar.at ha
          clear h hsn hle
          obtain ⟨⟨kp, np, tp, lp⟩, ⟨kb, nb, tb, nsb, ysb, lb, rsb, pb⟩⟩ := a
          repeat (first | refine gG ?_ | refine zN1 (fun hlen => ?_) | refine zN2 (fun hlen => ?_) | refine zAl (fun _ => ?_) | refine zBx (fun _ => ?_) | refine zAp (fun _ => ?_))
          refine zIx (j) (hj') ?_
          repeat (first | refine gG ?_ | refine zN1 (fun hlen => ?_) | refine zN2 (fun hlen => ?_) | refine zAl (fun _ => ?_) | refine zBx (fun _ => ?_) | refine zAp (fun _ => ?_))
          refine zEl (hat) (Ar.ts_len _) ?_
          repeat (first | refine gG ?_ | refine zN1 (fun hlen => ?_) | refine zN2 (fun hlen => ?_) | refine zAl (fun _ => ?_) | refine zBx (fun _ => ?_) | refine zAp (fun _ => ?_))
          refine zCallG [0, 1, 2] hc ?_
          rintro _ _ ⟨v', rfl, rfl⟩
          refine ⟨.tup [], _, re_refl, rfl, rfl, ?_⟩
          repeat (first | refine gG ?_ | refine zN1 (fun hlen => ?_) | refine zN2 (fun hlen => ?_) | refine zAl (fun _ => ?_) | refine zBx (fun _ => ?_) | refine zAp (fun _ => ?_))
          exact ⟨(j + 1, v'), hj', by simp only; omega, x_wkd 3 ⟨rfl, trivial⟩ (by simp only [hnx]; rfl) (by repeat (first | exact ag_refl | refine ag_upd rfl ?_ | refine ag_at rfl rfl ?_))⟩
        · have hj' : j = rs.length := by
            have : ¬ j < rs.length := by simpa using h
            omega
          subst hj'
          clear h
          rw [List.take_length]
          repeat (first | refine gG ?_ | refine zN1 (fun hlen => ?_) | refine zN2 (fun hlen => ?_) | refine zAl (fun _ => ?_) | refine zBx (fun _ => ?_) | refine zAp (fun _ => ?_))
          refine zG ?_
          exact ⟨_, rfl, by rw [hall]⟩
end Go.Proofs.YtllgibfmddihgaaDoor
namespace Go.Proofs.YtllgibfmddihgaaDoor
open Go.RowKit
set_option maxRecDepth 100000 in
set_option maxHeartbeats 4000000 in
theorem walk_af (e : Ex) (he : e.walk.length ≤ 1048576) : AF Tryd.prog 51 [e.t] (· = Ex.row e.walk) := by
  have hc := fun b1 b2 v => walk1_ag e b1 b2 v [] (by simpa using he)
  simp only [List.nil_append] at hc
  generalize e.walk = W at *
  obtain ⟨k0, n0, t0, ns0, ys0, l0, rs0, p0⟩ := e
  refine af_enter tok Tryd.func51 Tryd.ntmps51 Tryd.results51 rfl (by kernel_rfl) rfl rfl fun F hX => ?_
  repeat (first | refine ac_seq ?_ | refine ac_block ?_ | refine ac_region ?_)
  repeat (first | refine gO ?_ | refine zAl (fun _ => ?_) | refine zBf ?_)
  repeat (first | refine ac_seq ?_ | refine ac_block ?_ | refine ac_region ?_)
  repeat (first | refine gO ?_ | refine zAl (fun _ => ?_) | refine zBf ?_)
  repeat (first | refine ac_seq ?_ | refine ac_block ?_ | refine ac_region ?_)
  repeat (first | refine gO ?_ | refine zAl (fun _ => ?_) | refine zBf ?_)
  repeat (first | refine ac_seq ?_ | refine ac_block ?_ | refine ac_region ?_)
  repeat (first | refine gO ?_ | refine zAl (fun _ => ?_) | refine zBf ?_)
  refine x_own_cell 0 0 40 8 rfl rfl rfl rfl rfl rfl ?_
  repeat (first | refine gG ?_ | refine zAl (fun _ => ?_) | refine zBx (fun _ => ?_))
  refine zCallG [0, 1, 2] (hc _ _ _) ?_
  rintro _ _ ⟨v', rfl, rfl⟩
  refine ⟨.tup [], _, re_refl, rfl, rfl, ?_⟩
  repeat (first | refine gG ?_ | refine zAl (fun _ => ?_) | refine zBx (fun _ => ?_))
  first | refine zR ?_ | refine zQ ?_
  rfl
end Go.Proofs.YtllgibfmddihgaaDoor
namespace Go.Proofs.YtllgibfmddihgaaDoor
open Go.RowKit
theorem mapped_all {α : Type} (ts : α → List T) (all : List α → List T) (he : ∀ l, all l = l.flatMap ts) (g : α → α) {l : List α} {k : Nat} {a : α} (h : l[k]? = some a) : all ((l.take (k + 1)).map g) = all ((l.take k).map g) ++ ts (g a) := by
  obtain ⟨h1, rfl⟩ := List.getElem?_eq_some_iff.1 h
  rw [he, he, List.take_succ_eq_append_getElem h1, List.map_append, List.flatMap_append]
  simp
theorem mapped_len {α : Type} (g : α → α) {l : List α} {k : Nat} {a : α} (h : l[k]? = some a) : ((l.take (k + 1)).map g).length = ((l.take k).map g).length + 1 := by
  obtain ⟨h1, rfl⟩ := List.getElem?_eq_some_iff.1 h
  simp only [List.length_map, List.length_take]; omega
set_option maxRecDepth 100000 in
set_option maxHeartbeats 4000000 in
theorem mappedY_af (f : FuncId) (g : Y → Y) (l : List Y) (hl : l.length ≤ 1048576) (hf : ∀ a ∈ l, AF Tryd.prog f [.agg (Y.ts a)] (· = .agg (Y.ts (g a)))) :
    AF Tryd.prog 142 [Y.row l, .fn (.func f) []] (· = Y.row (l.map g)) := by
  refine af_enter tok Tryd.func142 Tryd.ntmps142 Tryd.results142 rfl (by kernel_rfl) rfl rfl fun F hX => ?_
  repeat (first | refine gG ?_ | refine zN1 (fun hlen => ?_) | refine zN2 (fun hlen => ?_) | refine zAl (fun _ => ?_) | refine zAp (fun _ => ?_))
  refine x_own 5 64 3 rfl rfl rfl rfl rfl ?_
  refine x_loop [5, 7, 10, 11, 12, 13, 14, 15, 16, 17, 18, 19, 20] (fun y : Nat × Value => [(10, .c (.lit (.int .i64 y.1))), (5, .own 0 y.2)]) (fun y => [.row y.2 64 3 ((l.take y.1).map g).length (Y.all ((l.take y.1).map g))]) (fun y => y.1 ≤ l.length) (fun y => l.length - y.1) (0, .slice none 0 0) (Nat.zero_le _) ⟨rfl, rfl, trivial⟩ rfl ?_
  rintro ⟨k, v⟩ hk
  dsimp only at hk ⊢
  repeat (first | refine gG ?_ | refine zN1 (fun hlen => ?_) | refine zN2 (fun hlen => ?_) | refine zAl (fun _ => ?_) | refine zAp (fun _ => ?_))
  refine x_cond rfl (fun h => ?_) (fun h => ?_)
  · have hk' : k < l.length := by simpa using h
    obtain ⟨a, ha⟩ := nth hk'
    have hfa := hf a (List.mem_of_getElem? ha)
    have hc1 := mapped_all Y.ts Y.all Y.all_eq g ha
    have hl1 := mapped_len g ha
    have hat := Y.at ha
    have hle : ((l.take k).map g).length ≤ 1048576 := by rw [List.length_map, List.length_take]; omega
    clear h ha
    generalize g a = ga at *
    obtain ⟨k1, n1, l1⟩ := a
    obtain ⟨k1', n1', l1'⟩ := ga
    repeat (first | refine gG ?_ | refine zN1 (fun hlen => ?_) | refine zN2 (fun hlen => ?_) | refine zAl (fun _ => ?_) | refine zAp (fun _ => ?_))
    refine zIx (k) (hk') ?_
    repeat (first | refine gG ?_ | refine zN1 (fun hlen => ?_) | refine zN2 (fun hlen => ?_) | refine zAl (fun _ => ?_) | refine zAp (fun _ => ?_))
    refine zEl (hat) (Y.ts_len _) ?_
    repeat (first | refine gG ?_ | refine zN1 (fun hlen => ?_) | refine zN2 (fun hlen => ?_) | refine zAl (fun _ => ?_) | refine zAp (fun _ => ?_))
    refine zCallc (hfa) ?_
    rintro _ rfl
    repeat (first | refine gG ?_ | refine zN1 (fun hlen => ?_) | refine zN2 (fun hlen => ?_) | refine zAl (fun _ => ?_) | refine zAp (fun _ => ?_))
    exact ⟨(k + 1, _), hk', by simp only; omega, x_wkd 1 ⟨rfl, rfl, trivial⟩ (by simp only [hl1, hc1]; rfl) (by repeat (first | exact ag_refl | refine ag_upd rfl ?_ | refine ag_at rfl rfl ?_))⟩
  · have hk' : k = l.length := by
      have : ¬ k < l.length := by simpa using h
      omega
    subst hk'
    clear h
    rw [List.take_length]
    repeat (first | refine gG ?_ | refine zN1 (fun hlen => ?_) | refine zN2 (fun hlen => ?_) | refine zAl (fun _ => ?_) | refine zAp (fun _ => ?_))
    first | refine zR ?_ | refine zQ ?_
    rfl
set_option maxRecDepth 100000 in
set_option maxHeartbeats 4000000 in
theorem mappedV_af (f : FuncId) (g : V → V) (l : List V) (hl : l.length ≤ 1048576) (hf : ∀ a ∈ l, AF Tryd.prog f [.agg (V.ts a)] (· = .agg (V.ts (g a)))) :
    AF Tryd.prog 170 [V.row l, .fn (.func f) []] (· = V.row (l.map g)) := by
  refine af_enter tok Tryd.func170 Tryd.ntmps170 Tryd.results170 rfl (by kernel_rfl) rfl rfl fun F hX => ?_
  repeat (first | refine gG ?_ | refine zN1 (fun hlen => ?_) | refine zN2 (fun hlen => ?_) | refine zAl (fun _ => ?_) | refine zAp (fun _ => ?_))
  refine x_own 5 109 4 rfl rfl rfl rfl rfl ?_
  refine x_loop [5, 7, 10, 11, 12, 13, 14, 15, 16, 17, 18, 19, 20] (fun y : Nat × Value => [(10, .c (.lit (.int .i64 y.1))), (5, .own 0 y.2)]) (fun y => [.row y.2 109 4 ((l.take y.1).map g).length (V.all ((l.take y.1).map g))]) (fun y => y.1 ≤ l.length) (fun y => l.length - y.1) (0, .slice none 0 0) (Nat.zero_le _) ⟨rfl, rfl, trivial⟩ rfl ?_
  rintro ⟨k, v⟩ hk
  dsimp only at hk ⊢
  repeat (first | refine gG ?_ | refine zN1 (fun hlen => ?_) | refine zN2 (fun hlen => ?_) | refine zAl (fun _ => ?_) | refine zAp (fun _ => ?_))
  refine x_cond rfl (fun h => ?_) (fun h => ?_)
  · have hk' : k < l.length := by simpa using h
    obtain ⟨a, ha⟩ := nth hk'
    have hfa := hf a (List.mem_of_getElem? ha)
    have hc1 := mapped_all V.ts V.all V.all_eq g ha
    have hl1 := mapped_len g ha
    have hat := V.at ha
    have hle : ((l.take k).map g).length ≤ 1048576 := by rw [List.length_map, List.length_take]; omega
    clear h ha
    generalize g a = ga at *
    obtain ⟨k1, n1, t1, l1⟩ := a
    obtain ⟨k1', n1', t1', l1'⟩ := ga
    repeat (first | refine gG ?_ | refine zN1 (fun hlen => ?_) | refine zN2 (fun hlen => ?_) | refine zAl (fun _ => ?_) | refine zAp (fun _ => ?_))
    refine zIx (k) (hk') ?_
    repeat (first | refine gG ?_ | refine zN1 (fun hlen => ?_) | refine zN2 (fun hlen => ?_) | refine zAl (fun _ => ?_) | refine zAp (fun _ => ?_))
    refine zEl (hat) (V.ts_len _) ?_
    repeat (first | refine gG ?_ | refine zN1 (fun hlen => ?_) | refine zN2 (fun hlen => ?_) | refine zAl (fun _ => ?_) | refine zAp (fun _ => ?_))
    refine zCallc (hfa) ?_
    rintro _ rfl
    repeat (first | refine gG ?_ | refine zN1 (fun hlen => ?_) | refine zN2 (fun hlen => ?_) | refine zAl (fun _ => ?_) | refine zAp (fun _ => ?_))
    exact ⟨(k + 1, _), hk', by simp only; omega, x_wkd 1 ⟨rfl, rfl, trivial⟩ (by simp only [hl1, hc1]; rfl) (by repeat (first | exact ag_refl | refine ag_upd rfl ?_ | refine ag_at rfl rfl ?_))⟩
  · have hk' : k = l.length := by
      have : ¬ k < l.length := by simpa using h
      omega
    subst hk'
    clear h
    rw [List.take_length]
    repeat (first | refine gG ?_ | refine zN1 (fun hlen => ?_) | refine zN2 (fun hlen => ?_) | refine zAl (fun _ => ?_) | refine zAp (fun _ => ?_))
    first | refine zR ?_ | refine zQ ?_
    rfl
set_option maxRecDepth 100000 in
set_option maxHeartbeats 4000000 in
theorem mappedEx_af (f : FuncId) (g : Ex → Ex) (l : List Ex) (hl : l.length ≤ 1048576) (hf : ∀ a ∈ l, AF Tryd.prog f [.agg (Ex.ts a)] (· = .agg (Ex.ts (g a)))) :
    AF Tryd.prog 144 [Ex.row l, .fn (.func f) []] (· = Ex.row (l.map g)) := by
  refine af_enter tok Tryd.func144 Tryd.ntmps144 Tryd.results144 rfl (by kernel_rfl) rfl rfl fun F hX => ?_
  repeat (first | refine gG ?_ | refine zN1 (fun hlen => ?_) | refine zN2 (fun hlen => ?_) | refine zAl (fun _ => ?_) | refine zAp (fun _ => ?_))
  refine x_own 5 40 8 rfl rfl rfl rfl rfl ?_
  refine x_loop [5, 7, 10, 11, 12, 13, 14, 15, 16, 17, 18, 19, 20] (fun y : Nat × Value => [(10, .c (.lit (.int .i64 y.1))), (5, .own 0 y.2)]) (fun y => [.row y.2 40 8 ((l.take y.1).map g).length (Ex.all ((l.take y.1).map g))]) (fun y => y.1 ≤ l.length) (fun y => l.length - y.1) (0, .slice none 0 0) (Nat.zero_le _) ⟨rfl, rfl, trivial⟩ rfl ?_
  rintro ⟨k, v⟩ hk
  dsimp only at hk ⊢
  repeat (first | refine gG ?_ | refine zN1 (fun hlen => ?_) | refine zN2 (fun hlen => ?_) | refine zAl (fun _ => ?_) | refine zAp (fun _ => ?_))
  refine x_cond rfl (fun h => ?_) (fun h => ?_)
  · have hk' : k < l.length := by simpa using h
    obtain ⟨a, ha⟩ := nth hk'
    have hfa := hf a (List.mem_of_getElem? ha)
    have hc1 := mapped_all Ex.ts Ex.all Ex.all_eq g ha
    have hl1 := mapped_len g ha
    have hat := Ex.at ha
    have hle : ((l.take k).map g).length ≤ 1048576 := by rw [List.length_map, List.length_take]; omega
    clear h ha
    generalize g a = ga at *
    obtain ⟨k1, n1, t1, ns1, ys1, l1, rs1, ps1⟩ := a
    obtain ⟨k1', n1', t1', ns1', ys1', l1', rs1', ps1'⟩ := ga
    repeat (first | refine gG ?_ | refine zN1 (fun hlen => ?_) | refine zN2 (fun hlen => ?_) | refine zAl (fun _ => ?_) | refine zAp (fun _ => ?_))
    refine zIx (k) (hk') ?_
    repeat (first | refine gG ?_ | refine zN1 (fun hlen => ?_) | refine zN2 (fun hlen => ?_) | refine zAl (fun _ => ?_) | refine zAp (fun _ => ?_))
    refine zEl (hat) (Ex.ts_len _) ?_
    repeat (first | refine gG ?_ | refine zN1 (fun hlen => ?_) | refine zN2 (fun hlen => ?_) | refine zAl (fun _ => ?_) | refine zAp (fun _ => ?_))
    refine zCallc (hfa) ?_
    rintro _ rfl
    repeat (first | refine gG ?_ | refine zN1 (fun hlen => ?_) | refine zN2 (fun hlen => ?_) | refine zAl (fun _ => ?_) | refine zAp (fun _ => ?_))
    exact ⟨(k + 1, _), hk', by simp only; omega, x_wkd 1 ⟨rfl, rfl, trivial⟩ (by simp only [hl1, hc1]; rfl) (by repeat (first | exact ag_refl | refine ag_upd rfl ?_ | refine ag_at rfl rfl ?_))⟩
  · have hk' : k = l.length := by
      have : ¬ k < l.length := by simpa using h
      omega
    subst hk'
    clear h
    rw [List.take_length]
    repeat (first | refine gG ?_ | refine zN1 (fun hlen => ?_) | refine zN2 (fun hlen => ?_) | refine zAl (fun _ => ?_) | refine zAp (fun _ => ?_))
    first | refine zR ?_ | refine zQ ?_
    rfl
set_option maxRecDepth 100000 in
set_option maxHeartbeats 4000000 in
theorem mappedAr_af (f : FuncId) (g : Ar → Ar) (l : List Ar) (hl : l.length ≤ 1048576) (hf : ∀ a ∈ l, AF Tryd.prog f [.agg (Ar.ts a)] (· = .agg (Ar.ts (g a)))) :
    AF Tryd.prog 145 [Ar.row l, .fn (.func f) []] (· = Ar.row (l.map g)) := by
  refine af_enter tok Tryd.func145 Tryd.ntmps145 Tryd.results145 rfl (by kernel_rfl) rfl rfl fun F hX => ?_
  repeat (first | refine gG ?_ | refine zN1 (fun hlen => ?_) | refine zN2 (fun hlen => ?_) | refine zAl (fun _ => ?_) | refine zAp (fun _ => ?_))
  refine x_own 5 111 12 rfl rfl rfl rfl rfl ?_
  refine x_loop [5, 7, 10, 11, 12, 13, 14, 15, 16, 17, 18, 19, 20] (fun y : Nat × Value => [(10, .c (.lit (.int .i64 y.1))), (5, .own 0 y.2)]) (fun y => [.row y.2 111 12 ((l.take y.1).map g).length (Ar.all ((l.take y.1).map g))]) (fun y => y.1 ≤ l.length) (fun y => l.length - y.1) (0, .slice none 0 0) (Nat.zero_le _) ⟨rfl, rfl, trivial⟩ rfl ?_
  rintro ⟨k, v⟩ hk
  dsimp only at hk ⊢
  repeat (first | refine gG ?_ | refine zN1 (fun hlen => ?_) | refine zN2 (fun hlen => ?_) | refine zAl (fun _ => ?_) | refine zAp (fun _ => ?_))
  refine x_cond rfl (fun h => ?_) (fun h => ?_)
  · have hk' : k < l.length := by simpa using h
    obtain ⟨a, ha⟩ := nth hk'
    have hfa := hf a (List.mem_of_getElem? ha)
    have hc1 := mapped_all Ar.ts Ar.all Ar.all_eq g ha
    have hl1 := mapped_len g ha
    have hat := Ar.at ha
    have hle : ((l.take k).map g).length ≤ 1048576 := by rw [List.length_map, List.length_take]; omega
    clear h ha
    generalize g a = ga at *
    obtain ⟨⟨k1, n1, t1, l1⟩, ⟨kb, nb, tb, nsb, ysb, lb, rsb, pb⟩⟩ := a
    obtain ⟨⟨k1', n1', t1', l1'⟩, ⟨kb', nb', tb', nsb', ysb', lb', rsb', pb'⟩⟩ := ga
    repeat (first | refine gG ?_ | refine zN1 (fun hlen => ?_) | refine zN2 (fun hlen => ?_) | refine zAl (fun _ => ?_) | refine zAp (fun _ => ?_))
    refine zIx (k) (hk') ?_
    repeat (first | refine gG ?_ | refine zN1 (fun hlen => ?_) | refine zN2 (fun hlen => ?_) | refine zAl (fun _ => ?_) | refine zAp (fun _ => ?_))
    refine zEl (hat) (Ar.ts_len _) ?_
    repeat (first | refine gG ?_ | refine zN1 (fun hlen => ?_) | refine zN2 (fun hlen => ?_) | refine zAl (fun _ => ?_) | refine zAp (fun _ => ?_))
    refine zCallc (hfa) ?_
    rintro _ rfl
    repeat (first | refine gG ?_ | refine zN1 (fun hlen => ?_) | refine zN2 (fun hlen => ?_) | refine zAl (fun _ => ?_) | refine zAp (fun _ => ?_))
    exact ⟨(k + 1, _), hk', by simp only; omega, x_wkd 1 ⟨rfl, rfl, trivial⟩ (by simp only [hl1, hc1]; rfl) (by repeat (first | exact ag_refl | refine ag_upd rfl ?_ | refine ag_at rfl rfl ?_))⟩
  · have hk' : k = l.length := by
      have : ¬ k < l.length := by simpa using h
      omega
    subst hk'
    clear h
    rw [List.take_length]
    repeat (first | refine gG ?_ | refine zN1 (fun hlen => ?_) | refine zN2 (fun hlen => ?_) | refine zAl (fun _ => ?_) | refine zAp (fun _ => ?_))
    first | refine zR ?_ | refine zQ ?_
    rfl
set_option maxRecDepth 100000 in
set_option maxHeartbeats 4000000 in
theorem copyType_af (v : Y) : v.mass ≤ 1048576 → AF Tryd.prog 143 [.agg (Y.ts v)] (· = .agg (Y.ts v)) := by
  induction v using Y.ind with
  | h k n l ih =>
    intro hv
    simp only [Y.mass, Y.masses_sum] at hv
    have hc := mappedY_af 143 (fun a => a) l (by have := len_sum' Y.mass Y.mass_pos l; omega) (fun a ha => ih a ha (by have := sum_mem' Y.mass ha; omega))
    rw [show l.map (fun a => a) = l from List.map_id' l] at hc
    clear ih
    refine af_enter tok Tryd.func143 Tryd.ntmps143 Tryd.results143 rfl (by kernel_rfl) rfl rfl fun F hX => ?_
    repeat (first | refine gG ?_ | refine zAl (fun _ => ?_) | refine zBx (fun _ => ?_))
    refine zCall (hc) ?_
    rintro _ rfl
    repeat (first | refine gG ?_ | refine zAl (fun _ => ?_) | refine zBx (fun _ => ?_))
    first | refine zR ?_ | refine zQ ?_
    rfl
set_option maxRecDepth 100000 in
set_option maxHeartbeats 4000000 in
theorem copyPat_af (v : V) : v.mass ≤ 1048576 → AF Tryd.prog 147 [.agg (V.ts v)] (· = .agg (V.ts v)) := by
  induction v using V.ind with
  | h k n t l ih =>
    intro hv
    simp only [V.mass, V.masses_sum] at hv
    have hc := mappedV_af 147 (fun a => a) l (by have := len_sum' V.mass V.mass_pos l; omega) (fun a ha => ih a ha (by have := sum_mem' V.mass ha; omega))
    rw [show l.map (fun a => a) = l from List.map_id' l] at hc
    clear ih
    refine af_enter tok Tryd.func147 Tryd.ntmps147 Tryd.results147 rfl (by kernel_rfl) rfl rfl fun F hX => ?_
    repeat (first | refine gG ?_ | refine zAl (fun _ => ?_) | refine zBx (fun _ => ?_))
    refine zCall (hc) ?_
    rintro _ rfl
    repeat (first | refine gG ?_ | refine zAl (fun _ => ?_) | refine zBx (fun _ => ?_))
    first | refine zR ?_ | refine zQ ?_
    rfl
end Go.Proofs.YtllgibfmddihgaaDoor
namespace Go.Proofs.YtllgibfmddihgaaDoor
open Go.RowKit
mutual
def Ex.clear : Ex → Ex
  | .mk k n t ns ys l rs _ => .mk k n t ns ys (Ex.clears l) (Ar.clears rs) 0
def Ex.clears : List Ex → List Ex
  | [] => []
  | v :: r => v.clear :: Ex.clears r
def Ar.clears : List Ar → List Ar
  | [] => []
  | .mk p b :: r => .mk p b.clear :: Ar.clears r
end
def Ar.clear : Ar → Ar
  | .mk p b => .mk p b.clear
theorem Ex.clears_eq : ∀ l : List Ex, Ex.clears l = l.map Ex.clear
  | [] => rfl
  | v :: l => by rw [Ex.clears, Ex.clears_eq l]; rfl
theorem Ar.clears_eq : ∀ l : List Ar, Ar.clears l = l.map Ar.clear
  | [] => rfl
  | .mk p b :: l => by rw [Ar.clears, Ar.clears_eq l]; rfl
theorem cloneStr_af (l : List ByteArray) (hl : l.length ≤ 1048576) : AF Tryd.prog 141 [strRow l] (· = strRow l) := by
  refine af_enter tok Tryd.func141 Tryd.ntmps141 Tryd.results141 rfl (by kernel_rfl) rfl rfl fun F hX => ?_
  repeat (first | refine gG ?_ | refine zAp (fun _ => ?_))
  refine zNs (fun b hb => ?_)
  cases b
  · repeat (first | refine gX ?_ | refine zAp (fun _ => ?_))
    refine zBo (fun _ => ?_)
    repeat (first | refine gG ?_ | refine zAp (fun _ => ?_))
    first | refine zR ?_ | refine zQ ?_
    simp only [outT, List.nil_append, Nat.zero_add]
    rfl
  · have h0 := hb rfl
    have : l = [] := List.eq_nil_of_length_eq_zero h0
    subst this
    repeat (first | refine gG ?_ | refine zAp (fun _ => ?_))
    first | refine zR (ts := [strRow []]) ?_ | refine zQ (ts := [strRow []]) ?_
    rfl
set_option maxRecDepth 100000 in
set_option maxHeartbeats 4000000 in
theorem clear1_af (p : V) (b : Ex) (hp : p.mass ≤ 1048576) (hb : AF Tryd.prog 62 [.agg b.ts] (· = .agg b.clear.ts)) : AF Tryd.prog 146 [.agg (Ar.mk p b).ts] (· = .agg (Ar.mk p b.clear).ts) := by
  have hc := copyPat_af p hp
  generalize b.clear = c at *
  obtain ⟨kp, np, tp, lp⟩ := p
  obtain ⟨kb, nb, tb, nsb, ysb, lb, rsb, pb⟩ := b
  obtain ⟨kc, nc, tc, nsc, ysc, lc, rsc, pc⟩ := c
  refine af_enter tok Tryd.func146 Tryd.ntmps146 Tryd.results146 rfl (by kernel_rfl) rfl rfl fun F hX => ?_
  repeat (first | refine gG ?_ | refine zAl (fun _ => ?_) | refine zBx (fun _ => ?_))
  refine ac_draw [1, 1, 1, 1, 1, 1, 1, 2] [0, 1, 2, 3, 4, 5, 6, 7] (by kernel_rfl) (by kernel_rfl) ?_
  refine gW ?_
  apply w_q; (focus exact rfl); (focus exact rfl); focus (intro _; (refine zCall hc ?_; rintro _ rfl); exact det_refl)
  refine gW ?_
  apply w_q; (focus exact rfl); (focus exact rfl); focus (intro _; (refine zCall hb ?_; rintro _ rfl); exact det_refl)
  refine gW ?_
  apply w_l; (focus exact rfl); (focus exact rfl); (first | (refine zkL ?_; first | refine zL1 ?_ | refine zL2 ?_ | refine zL3 ?_ | refine zLp ?_) | refine zM ?_ | (refine zkF ?_; first | refine zF1 ?_ | refine zF2 ?_ | refine zF3 ?_) | refine zA ?_ | (refine zkB ?_; first | refine zC5 ?_ | refine zC6 ?_ | refine zC1 ?_ | refine zC2 ?_ | refine zC3 ?_ | refine zC4 ?_ | refine zS5 ?_ | refine zS6 ?_ | refine zS1 ?_ | refine zS2 ?_ | refine zS3 ?_ | refine zS4 ?_ | refine zInc ?_ | refine zQ1 ?_ | refine zQ2 ?_ | refine zQ3 ?_ | refine zQ4 ?_ | refine zQ5 ?_ | refine zQ6 ?_) | (refine zkI ?_; first | refine zN1 (fun hlen => ?_) | refine zN2 (fun hlen => ?_) | refine zN3 ?_ | refine zN4 ?_ | refine zAp (fun _ => ?_)) | refine zS ?_ | refine zAl (fun _ => ?_) | refine zBx (fun _ => ?_) | refine zPt ?_ | refine zPf ?_ | refine zE ?_ | refine zEA ?_ | refine zNot ?_ | refine zBd ?_ | refine zBs ?_ | refine zFn ?_ | refine zK1 ?_ | refine zK2 ?_)
  refine w_nil ?_
  repeat (first | refine gG ?_ | refine zAl (fun _ => ?_) | refine zBx (fun _ => ?_))
  first | refine zR ?_ | refine zQ ?_
  rfl
set_option maxRecDepth 100000 in
set_option maxHeartbeats 4000000 in
theorem clear_af (e : Ex) : e.mass ≤ 1048576 → AF Tryd.prog 62 [.agg e.ts] (· = .agg e.clear.ts) := by
  induction e using Ex.ind with
  | h k n t ns ys l rs p ih ihr =>
    intro hv
    simp only [Ex.mass, Ex.masses_sum, Ar.masses_sum, Y.masses_sum] at hv
    have h1 := cloneStr_af ns (by have := strSize_len ns; omega)
    have h2 := mappedY_af 143 (fun a => a) ys (by have := len_sum' Y.mass Y.mass_pos ys; omega) (fun a ha => copyType_af a (by have := sum_mem' Y.mass ha; omega))
    rw [show ys.map (fun a => a) = ys from List.map_id' ys] at h2
    have h3 := mappedEx_af 62 Ex.clear l (by have := len_sum' Ex.mass Ex.mass_pos l; omega) (fun a ha => ih a ha (by have := sum_mem' Ex.mass ha; omega))
    have h4 := mappedAr_af 146 Ar.clear rs (by have := len_sum' Ar.mass Ar.mass_pos rs; omega) (fun a ha => by
      have hm := sum_mem' Ar.mass ha
      obtain ⟨q, b⟩ := a
      simp only [Ar.mass] at hm
      exact clear1_af q b (by omega) (ihr _ ha q b rfl (by omega)))
    rw [← Ex.clears_eq] at h3
    rw [← Ar.clears_eq] at h4
    rw [Ex.clear]
    clear ih ihr
    generalize Ex.clears l = cl at *
    generalize Ar.clears rs = cr at *
    refine af_enter tok Tryd.func62 Tryd.ntmps62 Tryd.results62 rfl (by kernel_rfl) rfl rfl fun F hX => ?_
    repeat (first | refine gG ?_ | refine zAl (fun _ => ?_) | refine zBx (fun _ => ?_))
    refine zCall (h1) ?_
    rintro _ rfl
    repeat (first | refine gG ?_ | refine zAl (fun _ => ?_) | refine zBx (fun _ => ?_))
    refine zCall (h2) ?_
    rintro _ rfl
    repeat (first | refine gG ?_ | refine zAl (fun _ => ?_) | refine zBx (fun _ => ?_))
    refine zCall (h3) ?_
    rintro _ rfl
    repeat (first | refine gG ?_ | refine zAl (fun _ => ?_) | refine zBx (fun _ => ?_))
    refine zCall (h4) ?_
    rintro _ rfl
    repeat (first | refine gG ?_ | refine zAl (fun _ => ?_) | refine zBx (fun _ => ?_))
    first | refine zR ?_ | refine zQ ?_
    rfl
end Go.Proofs.YtllgibfmddihgaaDoor
namespace Go.Proofs.YtllgibfmddihgaaDoor
open Go.RowKit
theorem flat_same {α β : Type} (f : α → List β) (g : α → α) : ∀ {l : List α}, (∀ a ∈ l, f (g a) = f a) → (l.map g).flatMap f = l.flatMap f
  | [], _ => rfl
  | a :: l, h => by rw [List.map_cons, List.flatMap_cons, List.flatMap_cons, h a (by simp), flat_same f g (fun x hx => h x (List.mem_cons_of_mem _ hx))]
theorem Ex.clear_mark (e : Ex) : e.clear.mark = e.mark := by
  induction e using Ex.ind with
  | h k n t ns ys l rs p ih ihr =>
    have h1 := flat_same Ex.mark Ex.clear ih
    have h2 := flat_same Ar.mark Ar.clear (l := rs) (fun r hr => by
      obtain ⟨q, b⟩ := r
      rw [Ar.clear, Ar.mark, Ar.mark, ihr _ hr q b rfl])
    rw [Ex.clear, Ex.mark, Ex.mark, Ex.marks_eq, Ex.marks_eq, Ar.marks_eq, Ar.marks_eq, Ex.clears_eq, Ar.clears_eq, h1, h2, List.length_map, List.length_map]
def Ex.pos : Ex → Int
  | .mk _ _ _ _ _ _ _ p => p
theorem Ex.clear_pos (e : Ex) : ∀ x ∈ e.clear.walk, x.pos = 0 := by
  induction e using Ex.ind with
  | h k n t ns ys l rs p ih ihr =>
    intro x hx
    rw [Ex.clear, Ex.walk, Ex.walks_eq, Ar.walks_eq, Ex.clears_eq, Ar.clears_eq] at hx
    rcases List.mem_cons.1 hx with rfl | hx
    · rfl
    · rcases List.mem_append.1 hx with hx | hx
      · obtain ⟨y, hy, hxy⟩ := List.mem_flatMap.1 hx
        obtain ⟨a, ha, rfl⟩ := List.mem_map.1 hy
        exact ih a ha x hxy
      · obtain ⟨y, hy, hxy⟩ := List.mem_flatMap.1 hx
        obtain ⟨z, hz, rfl⟩ := List.mem_map.1 hy
        obtain ⟨r, hr, rfl⟩ := List.mem_map.1 hz
        obtain ⟨q, b⟩ := r
        exact ihr _ hr q b rfl x hxy
end Go.Proofs.YtllgibfmddihgaaDoor
namespace Go.Proofs.YtllgibfmddihgaaDoor
open Go.RowKit
def hasS (l : List ByteArray) (s : ByteArray) : Bool := l.any fun x => decide (x = s)
theorem hasS_app (l r : List ByteArray) (s : ByteArray) : hasS (l ++ r) s = (hasS l s || hasS r s) := by simp [hasS]
/-- what is neither in names nor yet in out is put behind, one after the other -/
def addS (names : List ByteArray) : List ByteArray → List ByteArray → List ByteArray
  | out, [] => out
  | out, s :: r => addS names (bif hasS names s || hasS out s then out else out ++ [s]) r
theorem addS_app (N : List ByteArray) : ∀ (L M out : List ByteArray), addS N out (L ++ M) = addS N (addS N out L) M
  | [], _, _ => rfl
  | s :: L, M, out => by rw [List.cons_append, addS, addS, addS_app N L M]
theorem addS_grow (N : List ByteArray) (s : ByteArray) : ∀ (L out : List ByteArray), hasS out s = true → hasS (addS N out L) s = true
  | [], _, h => h
  | x :: L, out, h => by
    rw [addS]
    refine addS_grow N s L _ ?_
    cases hasS N x || hasS out x with
    | true => exact h
    | false => simp only [cond]; rw [hasS_app, h]; rfl
theorem hasS_one (x s : ByteArray) : hasS [x] s = decide (x = s) := by simp [hasS]
/-- what is gathered first under N and then under B is gathered under both -/
theorem addS_two (B N : List ByteArray) : ∀ (L acc out : List ByteArray), addS B out (addS N acc L) = addS (B ++ N) (addS B out acc) L
  | [], _, _ => rfl
  | s :: L, acc, out => by
    rw [addS, addS_two B N L, addS]
    congr 1
    have key : hasS acc s = true → hasS (addS B out acc) s = true ∨ hasS B s = true := by
      intro h
      clear addS_two
      induction acc generalizing out with
      | nil => simp [hasS] at h
      | cons x r ih =>
        rw [addS]
        by_cases hx : x = s
        · subst hx
          cases hb : hasS B x with
          | true => exact .inr rfl
          | false =>
            refine .inl (addS_grow B x r _ ?_)
            cases ho : hasS out x with
            | true => simp only [Bool.false_or, cond]; exact ho
            | false => simp only [Bool.false_or, cond]; rw [hasS_app, hasS_one]; simp
        · refine ih _ ?_
          have : hasS (x :: r) s = (decide (x = s) || hasS r s) := by simp [hasS]
          rw [this] at h
          simpa [hx] using h
    rw [hasS_app]
    cases hn : hasS N s with
    | true => simp
    | false =>
      cases ha : hasS acc s with
      | true =>
        rcases key ha with h | h
        · simp [h]
        · simp [h]
      | false =>
        simp only [Bool.or_false, Bool.false_or, cond]
        rw [addS_app, addS, addS]
        cases hasS B s || hasS (addS B out acc) s <;> rfl
end Go.Proofs.YtllgibfmddihgaaDoor
