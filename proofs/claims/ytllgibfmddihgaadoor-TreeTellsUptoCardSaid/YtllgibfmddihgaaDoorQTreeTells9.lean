/-
  Texts of this proof, part 9: Ab31 Tna Tnb Tnc.
-/
import Derived.Test.YtllgibfmddihgaaDoorQTreeTells8
import Derived.Lib.AppendStr
namespace Go.Proofs.YtllgibfmddihgaaDoor
open Go.RowKit
/-- a constant structure, part by part -/
def expandC : AV → AV
  | .c (.lit (.agg xs)) => .agg (xs.toList.map fun v => .c (.lit v))
  | a => a
theorem lits_ra (M : Mm) : ∀ l : List Value, RAs M (l.map fun v => .c (.lit v)) l
  | [] => by simp only [List.map_nil, RAs]
  | v :: l => by simp only [List.map_cons, RAs]; exact ⟨v, l, rfl, by simp only [RA, RT], lits_ra M l⟩
theorem expandC_ok {M : Mm} {a : AV} {x : Value} (h : RA M a x) : RA M (expandC a) x := by
  unfold expandC
  split
  · rename_i xs
    simp only [RA, RT] at h ⊢
    subst h
    exact ⟨xs.toList, by simp, lits_ra M _⟩
  · exact h
theorem zEx {P : Program} {F : Frm} {o : Oper} {ρ : Operand → AV} {hp : List Blk} {K : AV → List Blk → Prop} (h : LO P F o (fun x => expandC (ρ x)) hp K) : LO P F o ρ hp K :=
  ⟨fun M e w h1 h2 => h.out M e w (fun x hx => expandC_ok (h1 x hx)) h2⟩
section
variable {P : Program} {F : Frm} {d : Option Tmp} {ty : TypeId} {pos : String} {aft : Array Edge} {g : Option (Nat × Bool)} {ρ : Operand → AV} {hp : List Blk} {K : AV → List Blk → Prop}
theorem zMax3 {x y z : Operand} {t t' t'' : TypeId} {k k' k'' : IntKind} {a b c r : Int} (h : K (.c (.lit (.int k r))) hp) (hx : ρ x = .c (.lit (.int k a)) := by exact rfl) (hy : ρ y = .c (.lit (.int k' b)) := by exact rfl) (hz : ρ z = .c (.lit (.int k'' c)) := by exact rfl) (hr : max (max a b) c = r := by omega) : LO P F ⟨d, .call { callee := .builtin .max, args := #[x, y, z], argTypes := #[t, t', t''] }, ty, pos, aft, g⟩ ρ hp K := by
  subst hr
  refine LO.same (fun M e w he hh => ?_) h
  have h1 := he x (by simp [Op.operands, Call.operands])
  have h2 := he y (by simp [Op.operands, Call.operands])
  have h3 := he z (by simp [Op.operands, Call.operands])
  rw [hx] at h1
  rw [hy] at h2
  rw [hz] at h3
  simp only [RA, RT] at h1 h2 h3
  refine ⟨.int k (max (max a b) c), ?_, by simp only [RA, RT]⟩
  have e : ∀ u v : Int, (if v > u then v else u) = max u v := fun u v => by
    rw [Int.max_def]
    split <;> split <;> omega
  simp [execOp, resolve, invoke, builtin, h1, h2, h3, Builtin.max_, Builtin.max2, e]
theorem zMaxr {x y : Operand} {t t' : TypeId} {k k' : IntKind} {a b r : Int} (h : K (.c (.lit (.int k r))) hp) (hx : ρ x = .c (.lit (.int k a)) := by exact rfl) (hy : ρ y = .c (.lit (.int k' b)) := by exact rfl) (hr : max a b = r := by omega) : LO P F ⟨d, .call { callee := .builtin .max, args := #[x, y], argTypes := #[t, t'] }, ty, pos, aft, g⟩ ρ hp K :=
  zMax (by rw [hr]; exact h) hx hy
end
end Go.Proofs.YtllgibfmddihgaaDoor
namespace Go.Proofs.YtllgibfmddihgaaDoor
open Go.RowKit
mutual
def V.deep : V → Nat
  | .mk _ _ _ l => 1 + V.deeps l
def V.deeps : List V → Nat
  | [] => 0
  | v :: r => max v.deep (V.deeps r)
end
mutual
def Ex.deep : Ex → Nat
  | .mk _ _ _ _ _ l rs _ => 1 + max (Ex.deeps l) (Ar.deeps rs)
def Ex.deeps : List Ex → Nat
  | [] => 0
  | v :: r => max v.deep (Ex.deeps r)
def Ar.deeps : List Ar → Nat
  | [] => 0
  | .mk p b :: r => max (max p.deep b.deep) (Ar.deeps r)
end
def tops {α : Type} (f : α → Nat) : List α → Nat
  | [] => 0
  | v :: r => max (f v) (tops f r)
theorem V.deeps_eq : ∀ l : List V, V.deeps l = tops V.deep l
  | [] => rfl
  | v :: l => by rw [V.deeps, V.deeps_eq l]; rfl
theorem Ex.deeps_eq : ∀ l : List Ex, Ex.deeps l = tops Ex.deep l
  | [] => rfl
  | v :: l => by rw [Ex.deeps, Ex.deeps_eq l]; rfl
def Ar.deep (a : Ar) : Nat := max a.pat.deep a.body.deep
theorem Ar.deeps_eq : ∀ l : List Ar, Ar.deeps l = tops Ar.deep l
  | [] => rfl
  | .mk p b :: l => by rw [Ar.deeps, Ar.deeps_eq l]; rfl
theorem tops_app {α : Type} (f : α → Nat) : ∀ l r : List α, tops f (l ++ r) = max (tops f l) (tops f r)
  | [], r => by simp [tops]
  | v :: l, r => by rw [List.cons_append, tops, tops_app f l r, tops]; omega
theorem tops_snoc {α : Type} (f : α → Nat) {l : List α} {k : Nat} {a : α} (h : l[k]? = some a) : tops f (l.take (k + 1)) = max (tops f (l.take k)) (f a) := by
  obtain ⟨h1, rfl⟩ := List.getElem?_eq_some_iff.1 h
  rw [List.take_succ_eq_append_getElem h1, tops_app]
  simp [tops]
theorem tops_le {α : Type} (f : α → Nat) (n : Nat) : ∀ l : List α, (∀ a ∈ l, f a ≤ n) → tops f l ≤ n
  | [], _ => Nat.zero_le _
  | a :: l, h => by
    have h1 := h a (by simp)
    have h2 := tops_le f n l (fun x hx => h x (List.mem_cons_of_mem _ hx))
    rw [tops]
    omega
theorem V.deep_le (v : V) : v.deep ≤ v.nodes := by
  induction v using V.ind with
  | h k n t l ih =>
    rw [V.deep, V.deeps_eq, V.nodes, V.nodesAll_sum]
    have := tops_le V.deep (l.map V.nodes).sum l (fun a ha => Nat.le_trans (ih a ha) (sum_mem' V.nodes ha))
    omega
theorem Ex.deep_le (e : Ex) : e.deep ≤ e.count := by
  induction e using Ex.ind with
  | h k n t ns ys l rs a ih1 ih2 =>
    rw [Ex.deep, Ex.deeps_eq, Ar.deeps_eq, Ex.count_eq]
    have h1 := tops_le Ex.deep (l.map Ex.count).sum l (fun a ha => Nat.le_trans (ih1 a ha) (sum_mem' Ex.count ha))
    have h3 := arsum rs
    have h2 := tops_le Ar.deep (rs.map fun r => r.pn + r.body.count).sum rs (fun r hr => by
      have h4 := sum_mem' (fun r : Ar => r.pn + r.body.count) hr
      obtain ⟨p, b⟩ := r
      have h5 := ih2 _ hr p b rfl
      have h6 := p.deep_le
      simp only [Ar.pn, Ar.pat, Ar.body, Ar.deep] at h4 ⊢
      omega)
    simp only [Ex.count1, Ex.nexts, Ex.args, Ex.arms, List.map_append, List.sum_append]
    omega
set_option maxRecDepth 100000 in
set_option maxHeartbeats 4000000 in
theorem patSize_af (p : V) : p.nodes ≤ 1048576 → AF Tryd.prog 136 [p.t] (· = .lit (.int .i64 (p.nodes : Nat))) := by
  induction p using V.ind with
  | h k0 n0 t0 l ih =>
    intro hp
    rw [V.nodes, V.nodesAll_sum] at hp ⊢
    refine af_enter tok Tryd.func136 Tryd.ntmps136 Tryd.results136 rfl (by kernel_rfl) rfl rfl fun F hX => ?_
    repeat (first | refine gG ?_ | refine zN1 (fun hlen => ?_) | refine zN2 (fun hlen => ?_) | refine zAl (fun _ => ?_) | refine zBf ?_)
    refine x_loop [3, 5, 9, 10, 11, 12, 13, 14, 15, 16, 17] (fun k : Nat => [(9, .c (.lit (.int .i64 (k : Nat)))), (3, .c (.lit (.int .i64 ((1 + ((l.take k).map V.nodes).sum : Nat) : Int))))]) (fun _ => []) (fun k => k ≤ l.length) (fun k => l.length - k) 0 (Nat.zero_le _) ⟨rfl, rfl, trivial⟩ rfl ?_
    intro k hk
    repeat (first | refine gG ?_ | refine zN1 (fun hlen => ?_) | refine zN2 (fun hlen => ?_) | refine zAl (fun _ => ?_) | refine zBx (fun _ => ?_))
    refine x_cond rfl (fun h => ?_) (fun h => ?_)
    · have hk' : k < l.length := by simpa using h
      obtain ⟨a, ha⟩ := nth hk'
      have hs1 := tsum_snoc V.nodes ha
      have hs2 := tsum_le V.nodes l (k + 1)
      have hc := ih a (List.mem_of_getElem? ha) (by omega)
      have hat := V.at ha
      clear h ih ha
      generalize a.nodes = na at *
      obtain ⟨ka, nna, ta, la⟩ := a
      repeat (first | refine gG ?_ | refine zN1 (fun hlen => ?_) | refine zN2 (fun hlen => ?_) | refine zAl (fun _ => ?_) | refine zBx (fun _ => ?_))
      refine zIx (k) (hk') ?_
      repeat (first | refine gG ?_ | refine zN1 (fun hlen => ?_) | refine zN2 (fun hlen => ?_) | refine zAl (fun _ => ?_) | refine zBx (fun _ => ?_))
      refine zEl (hat) (V.ts_len _) ?_
      repeat (first | refine gG ?_ | refine zN1 (fun hlen => ?_) | refine zN2 (fun hlen => ?_) | refine zAl (fun _ => ?_) | refine zBx (fun _ => ?_))
      refine zCall (hc) ?_
      rintro _ rfl
      repeat (first | refine gG ?_ | refine zN1 (fun hlen => ?_) | refine zN2 (fun hlen => ?_) | refine zAl (fun _ => ?_) | refine zBx (fun _ => ?_))
      refine lo_add rfl rfl (r := ((1 + ((l.take k).map V.nodes).sum + na : Nat) : Int)) (by rw [IntWalk.i64_in _ (by omega)]; omega) ?_
      repeat (first | refine gG ?_ | refine zN1 (fun hlen => ?_) | refine zN2 (fun hlen => ?_) | refine zAl (fun _ => ?_) | refine zBx (fun _ => ?_))
      exact ⟨k + 1, hk', by omega, x_wkd 0 ⟨rfl, by rw [hs1, ← Nat.add_assoc]; rfl, trivial⟩ rfl (by repeat (first | exact ag_refl | refine ag_upd rfl ?_ | refine ag_at rfl rfl ?_))⟩
    · have hk' : k = l.length := by
        have : ¬ k < l.length := by simpa using h
        omega
      subst hk'
      clear h
      rw [List.take_length]
      repeat (first | refine gG ?_ | refine zN1 (fun hlen => ?_) | refine zN2 (fun hlen => ?_) | refine zAl (fun _ => ?_) | refine zBx (fun _ => ?_))
      first | refine zR ?_ | refine zQ ?_
      rfl
set_option maxRecDepth 100000 in
set_option maxHeartbeats 4000000 in
theorem patDeep_af (p : V) : p.nodes ≤ 1048576 → AF Tryd.prog 137 [p.t] (· = .lit (.int .i64 (p.deep : Nat))) := by
  induction p using V.ind with
  | h k0 n0 t0 l ih =>
    intro hp
    have hd := (V.mk k0 n0 t0 l).deep_le
    rw [V.nodes, V.nodesAll_sum] at hp hd
    rw [V.deep, V.deeps_eq] at hd ⊢
    refine af_enter tok Tryd.func137 Tryd.ntmps137 Tryd.results137 rfl (by kernel_rfl) rfl rfl fun F hX => ?_
    repeat (first | refine gG ?_ | refine zN1 (fun hlen => ?_) | refine zN2 (fun hlen => ?_) | refine zAl (fun _ => ?_) | refine zBf ?_)
    refine x_loop [3, 5, 9, 10, 11, 12, 13, 14, 15, 16, 17] (fun k : Nat => [(9, .c (.lit (.int .i64 (k : Nat)))), (3, .c (.lit (.int .i64 ((tops V.deep (l.take k) : Nat) : Int))))]) (fun _ => []) (fun k => k ≤ l.length) (fun k => l.length - k) 0 (Nat.zero_le _) ⟨rfl, rfl, trivial⟩ rfl ?_
    intro k hk
    repeat (first | refine gG ?_ | refine zN1 (fun hlen => ?_) | refine zN2 (fun hlen => ?_) | refine zAl (fun _ => ?_) | refine zBx (fun _ => ?_))
    refine x_cond rfl (fun h => ?_) (fun h => ?_)
    · have hk' : k < l.length := by simpa using h
      obtain ⟨a, ha⟩ := nth hk'
      have hs1 := tops_snoc V.deep ha
      have hc := ih a (List.mem_of_getElem? ha) (by have := sum_mem' V.nodes (List.mem_of_getElem? ha); omega)
      have hat := V.at ha
      clear h ih ha
      generalize a.deep = na at *
      obtain ⟨ka, nna, ta, la⟩ := a
      repeat (first | refine gG ?_ | refine zN1 (fun hlen => ?_) | refine zN2 (fun hlen => ?_) | refine zAl (fun _ => ?_) | refine zBx (fun _ => ?_))
      refine zIx (k) (hk') ?_
      repeat (first | refine gG ?_ | refine zN1 (fun hlen => ?_) | refine zN2 (fun hlen => ?_) | refine zAl (fun _ => ?_) | refine zBx (fun _ => ?_))
      refine zEl (hat) (V.ts_len _) ?_
      repeat (first | refine gG ?_ | refine zN1 (fun hlen => ?_) | refine zN2 (fun hlen => ?_) | refine zAl (fun _ => ?_) | refine zBx (fun _ => ?_))
      refine zCall (hc) ?_
      rintro _ rfl
      repeat (first | refine gG ?_ | refine zN1 (fun hlen => ?_) | refine zN2 (fun hlen => ?_) | refine zAl (fun _ => ?_) | refine zBx (fun _ => ?_))
      refine zMaxr (r := ((max (tops V.deep (l.take k)) na : Nat) : Int)) ?_
      repeat (first | refine gG ?_ | refine zN1 (fun hlen => ?_) | refine zN2 (fun hlen => ?_) | refine zAl (fun _ => ?_) | refine zBx (fun _ => ?_))
      exact ⟨k + 1, hk', by omega, x_wkd 0 ⟨rfl, by rw [hs1]; rfl, trivial⟩ rfl (by repeat (first | exact ag_refl | refine ag_upd rfl ?_ | refine ag_at rfl rfl ?_))⟩
    · have hk' : k = l.length := by
        have : ¬ k < l.length := by simpa using h
        omega
      subst hk'
      clear h
      rw [List.take_length]
      repeat (first | refine gG ?_ | refine zN1 (fun hlen => ?_) | refine zN2 (fun hlen => ?_) | refine zAl (fun _ => ?_) | refine zBx (fun _ => ?_))
      first | refine zR ?_ | refine zQ ?_
      rw [Nat.add_comm 1]
      rfl
set_option maxRecDepth 100000 in
set_option maxHeartbeats 4000000 in
theorem height_af (p : V) : p.nodes ≤ 1048576 → AF Tryd.prog 138 [p.t] (· = .lit (.int .i64 (p.deep : Nat))) := by
  induction p using V.ind with
  | h k0 n0 t0 l ih =>
    intro hp
    have hd := (V.mk k0 n0 t0 l).deep_le
    rw [V.nodes, V.nodesAll_sum] at hp hd
    rw [V.deep, V.deeps_eq] at hd ⊢
    refine af_enter tok Tryd.func138 Tryd.ntmps138 Tryd.results138 rfl (by kernel_rfl) rfl rfl fun F hX => ?_
    repeat (first | refine gG ?_ | refine zN1 (fun hlen => ?_) | refine zN2 (fun hlen => ?_) | refine zAl (fun _ => ?_) | refine zBf ?_)
    refine x_loop [3, 5, 9, 10, 11, 12, 13, 14, 15, 16, 17, 18] (fun k : Nat => [(9, .c (.lit (.int .i64 (k : Nat)))), (3, .c (.lit (.int .i64 ((1 + tops V.deep (l.take k) : Nat) : Int))))]) (fun _ => []) (fun k => k ≤ l.length) (fun k => l.length - k) 0 (Nat.zero_le _) ⟨rfl, rfl, trivial⟩ rfl ?_
    intro k hk
    repeat (first | refine gG ?_ | refine zN1 (fun hlen => ?_) | refine zN2 (fun hlen => ?_) | refine zAl (fun _ => ?_) | refine zBx (fun _ => ?_))
    refine x_cond rfl (fun h => ?_) (fun h => ?_)
    · have hk' : k < l.length := by simpa using h
      obtain ⟨a, ha⟩ := nth hk'
      have hs1 := tops_snoc V.deep ha
      have hc := ih a (List.mem_of_getElem? ha) (by have := sum_mem' V.nodes (List.mem_of_getElem? ha); omega)
      have hna : a.deep ≤ 1048576 := Nat.le_trans a.deep_le (by have := sum_mem' V.nodes (List.mem_of_getElem? ha); omega)
      have hat := V.at ha
      clear h ih ha
      generalize a.deep = na at *
      obtain ⟨ka, nna, ta, la⟩ := a
      repeat (first | refine gG ?_ | refine zN1 (fun hlen => ?_) | refine zN2 (fun hlen => ?_) | refine zAl (fun _ => ?_) | refine zBx (fun _ => ?_))
      refine zIx (k) (hk') ?_
      repeat (first | refine gG ?_ | refine zN1 (fun hlen => ?_) | refine zN2 (fun hlen => ?_) | refine zAl (fun _ => ?_) | refine zBx (fun _ => ?_))
      refine zEl (hat) (V.ts_len _) ?_
      repeat (first | refine gG ?_ | refine zN1 (fun hlen => ?_) | refine zN2 (fun hlen => ?_) | refine zAl (fun _ => ?_) | refine zBx (fun _ => ?_))
      refine zCall (hc) ?_
      rintro _ rfl
      repeat (first | refine gG ?_ | refine zN1 (fun hlen => ?_) | refine zN2 (fun hlen => ?_) | refine zAl (fun _ => ?_) | refine zBx (fun _ => ?_))
      refine lo_add rfl rfl (r := ((1 + na : Nat) : Int)) (by rw [IntWalk.i64_in _ (by omega)]; omega) ?_
      repeat (first | refine gG ?_ | refine zN1 (fun hlen => ?_) | refine zN2 (fun hlen => ?_) | refine zAl (fun _ => ?_) | refine zBx (fun _ => ?_))
      refine zMaxr (r := ((1 + max (tops V.deep (l.take k)) na : Nat) : Int)) ?_
      repeat (first | refine gG ?_ | refine zN1 (fun hlen => ?_) | refine zN2 (fun hlen => ?_) | refine zAl (fun _ => ?_) | refine zBx (fun _ => ?_))
      exact ⟨k + 1, hk', by omega, x_wkd 0 ⟨rfl, by rw [hs1]; rfl, trivial⟩ rfl (by repeat (first | exact ag_refl | refine ag_upd rfl ?_ | refine ag_at rfl rfl ?_))⟩
    · have hk' : k = l.length := by
        have : ¬ k < l.length := by simpa using h
        omega
      subst hk'
      clear h
      rw [List.take_length]
      repeat (first | refine gG ?_ | refine zN1 (fun hlen => ?_) | refine zN2 (fun hlen => ?_) | refine zAl (fun _ => ?_) | refine zBx (fun _ => ?_))
      first | refine zR ?_ | refine zQ ?_
      rfl
def Ar.cnt (r : Ar) : Nat := r.pn + r.body.count
theorem arcnt (rs : List Ar) : (rs.map Ar.pn).sum + ((rs.map Ar.body).map Ex.count).sum = (rs.map Ar.cnt).sum := arsum rs
set_option maxRecDepth 100000 in
set_option maxHeartbeats 4000000 in
theorem size_af (e : Ex) : e.count ≤ 1048576 → AF Tryd.prog 53 [e.t] (· = .lit (.int .i64 ((e.count : Nat) : Int))) := by
  induction e using Ex.ind with
  | h k0 n0 t0 ns0 ys0 l rs p0 ih ihr =>
    intro hp
    have harm : ∀ r ∈ rs, r.pn ≤ 1048576 ∧ r.body.count ≤ 1048576 ∧ AF Tryd.prog 53 [r.body.t] (· = .lit (.int .i64 ((r.body.count : Nat) : Int))) := fun r hr => by
      have h1 := sum_mem' Ar.cnt hr
      have h2 := arcnt rs
      rw [Ex.count_eq] at hp
      simp only [Ex.count1, Ex.nexts, Ex.args, Ex.arms, List.map_append, List.sum_append] at hp
      obtain ⟨p, b⟩ := r
      have e1 : (Ar.mk p b).cnt = (Ar.mk p b).pn + b.count := rfl
      dsimp only [Ar.body]
      exact ⟨by omega, by omega, ihr _ hr p b rfl (by omega)⟩
    have harg : ∀ a ∈ l, a.count ≤ 1048576 ∧ AF Tryd.prog 53 [a.t] (· = .lit (.int .i64 ((a.count : Nat) : Int))) := fun a ha => by
      have h1 := sum_mem' Ex.count ha
      rw [Ex.count_eq] at hp
      simp only [Ex.count1, Ex.nexts, Ex.args, Ex.arms, List.map_append, List.sum_append] at hp
      exact ⟨by omega, ih a ha (by omega)⟩
    have hspec : (Ex.mk k0 n0 t0 ns0 ys0 l rs p0).count = 1 + (l.map Ex.count).sum + (rs.map Ar.cnt).sum := by
      have h2 := arcnt rs
      rw [Ex.count_eq]
      simp only [Ex.count1, Ex.nexts, Ex.args, Ex.arms, List.map_append, List.sum_append]
      omega
    rw [hspec] at hp ⊢
    have hl0 := tsum_le Ex.count l
    clear ih ihr
    refine af_enter tok Tryd.func53 Tryd.ntmps53 Tryd.results53 rfl (by kernel_rfl) rfl rfl fun F hX => ?_
    repeat (first | refine gG ?_ | refine zN1 (fun hlen => ?_) | refine zN2 (fun hlen => ?_) | refine zAl (fun _ => ?_) | refine zBf ?_)
    refine x_loop [3, 5, 11, 12, 13, 14, 15, 16, 17, 18, 19] (fun k : Nat => [(11, .c (.lit (.int .i64 (k : Nat)))), (3, .c (.lit (.int .i64 ((1 + ((l.take k).map Ex.count).sum : Nat) : Int))))]) (fun _ => []) (fun k => k ≤ l.length) (fun k => l.length - k) 0 (Nat.zero_le _) ⟨rfl, rfl, trivial⟩ rfl ?_
    intro k hk
    repeat (first | refine gG ?_ | refine zN1 (fun hlen => ?_) | refine zN2 (fun hlen => ?_) | refine zAl (fun _ => ?_) | refine zBx (fun _ => ?_))
    refine x_cond rfl (fun h => ?_) (fun h => ?_)
    · have hk' : k < l.length := by simpa using h
      obtain ⟨a, ha⟩ := nth hk'
      have hs1 := tsum_snoc Ex.count ha
      have hs2 := tsum_le Ex.count l (k + 1)
      obtain ⟨hac, hc⟩ := harg a (List.mem_of_getElem? ha)
      have hade := a.deep_le
      have hat := Ex.at ha
      clear h ha
      generalize a.count = na at *
      obtain ⟨kx, nx, tx, nsx, ysx, lx, rsx, px⟩ := a
      repeat (first | refine gG ?_ | refine zN1 (fun hlen => ?_) | refine zN2 (fun hlen => ?_) | refine zAl (fun _ => ?_) | refine zBx (fun _ => ?_))
      refine zIx (k) (hk') ?_
      repeat (first | refine gG ?_ | refine zN1 (fun hlen => ?_) | refine zN2 (fun hlen => ?_) | refine zAl (fun _ => ?_) | refine zBx (fun _ => ?_))
      refine zEl (hat) (Ex.ts_len _) ?_
      repeat (first | refine gG ?_ | refine zN1 (fun hlen => ?_) | refine zN2 (fun hlen => ?_) | refine zAl (fun _ => ?_) | refine zBx (fun _ => ?_))
      refine zCall (hc) ?_
      rintro _ rfl
      repeat (first | refine gG ?_ | refine zN1 (fun hlen => ?_) | refine zN2 (fun hlen => ?_) | refine zAl (fun _ => ?_) | refine zBx (fun _ => ?_))
      refine lo_add rfl rfl (r := ((1 + ((l.take k).map Ex.count).sum + na : Nat) : Int)) (by rw [IntWalk.i64_in _ (by omega)]; omega) ?_
      repeat (first | refine gG ?_ | refine zN1 (fun hlen => ?_) | refine zN2 (fun hlen => ?_) | refine zAl (fun _ => ?_) | refine zBx (fun _ => ?_))
      exact ⟨k + 1, hk', by omega, x_wkd 0 ⟨rfl, by rw [hs1, ← Nat.add_assoc]; rfl, trivial⟩ rfl (by repeat (first | exact ag_refl | refine ag_upd rfl ?_ | refine ag_at rfl rfl ?_))⟩
    · have hk' : k = l.length := by
        have : ¬ k < l.length := by simpa using h
        omega
      subst hk'
      clear h
      rw [List.take_length]
      repeat (first | refine gG ?_ | refine zN1 (fun hlen => ?_) | refine zN2 (fun hlen => ?_) | refine zAl (fun _ => ?_) | refine zBx (fun _ => ?_))
      refine x_loop [3, 7, 23, 24, 25, 26, 27, 28, 29, 30, 31, 32, 33, 34, 35, 36] (fun k : Nat => [(23, .c (.lit (.int .i64 (k : Nat)))), (3, .c (.lit (.int .i64 ((1 + (l.map Ex.count).sum + ((rs.take k).map Ar.cnt).sum : Nat) : Int))))]) (fun _ => []) (fun k => k ≤ rs.length) (fun k => rs.length - k) 0 (Nat.zero_le _) ⟨rfl, by simp only [List.take_zero, List.map_nil, List.sum_nil, Nat.add_zero, tops, Nat.max_zero]; rfl, trivial⟩ rfl ?_
      intro j hj
      repeat (first | refine gG ?_ | refine zN1 (fun hlen => ?_) | refine zN2 (fun hlen => ?_) | refine zAl (fun _ => ?_) | refine zBx (fun _ => ?_))
      refine x_cond rfl (fun h => ?_) (fun h => ?_)
      · have hj' : j < rs.length := by simpa using h
        obtain ⟨r, hr⟩ := nth hj'
        have ht1 := tsum_snoc Ar.cnt hr
        have ht2 := tsum_le Ar.cnt rs (j + 1)
        obtain ⟨hpn, hbc, hcb⟩ := harm r (List.mem_of_getElem? hr)
        have hcp := patSize_af r.pat (show r.pat.nodes ≤ 1048576 from hpn)
        have hde := r.body.deep_le
        have hpe : r.pat.deep ≤ r.pn := r.pat.deep_le
        have hrt := Ar.at hr
        rw [show r.pat.nodes = r.pn from rfl] at hcp
        rw [show r.cnt = r.pn + r.body.count from rfl] at ht1
        generalize r.pn = pn at *
        generalize r.body.count = bc at *
        clear h hr
        obtain ⟨⟨kp, np, tp, lp⟩, ⟨kb, nb, tb, nsb, ysb, lb, rsb, pb⟩⟩ := r
        dsimp only [Ar.pat, Ar.body] at hcp hcb
        repeat (first | refine gG ?_ | refine zN1 (fun hlen => ?_) | refine zN2 (fun hlen => ?_) | refine zAl (fun _ => ?_) | refine zBx (fun _ => ?_))
        refine zIx (j) (hj') ?_
        repeat (first | refine gG ?_ | refine zN1 (fun hlen => ?_) | refine zN2 (fun hlen => ?_) | refine zAl (fun _ => ?_) | refine zBx (fun _ => ?_))
        refine zEl (hrt) (Ar.ts_len _) ?_
        repeat (first | refine gG ?_ | refine zN1 (fun hlen => ?_) | refine zN2 (fun hlen => ?_) | refine zAl (fun _ => ?_) | refine zBx (fun _ => ?_))
        skip
        refine ac_draw [1, 1, 1, 1, 1, 1, 1, 1, 1, 1] [0, 1, 2, 3, 4, 5, 6, 7, 8, 9] (by kernel_rfl) (by kernel_rfl) ?_
        refine gW ?_
        apply w_q; (focus exact rfl); (focus exact rfl); focus (intro _; (refine zCall hcp ?_; rintro _ rfl); exact det_refl)
        refine gW ?_
        apply w_q; (focus exact rfl); (focus exact rfl); focus (intro _; (refine zCall hcb ?_; rintro _ rfl); exact det_refl)
        apply w_q; (focus exact rfl); (focus exact rfl); focus (intro _; (refine lo_add rfl rfl (r := ((pn + bc : Nat) : Int)) (by rw [IntWalk.i64_in _ (by omega)]; omega) ?_); exact det_refl)
        apply w_q; (focus exact rfl); (focus exact rfl); focus (intro _; (refine lo_add rfl rfl (r := ((1 + (l.map Ex.count).sum + ((rs.take j).map Ar.cnt).sum + (pn + bc) : Nat) : Int)) (by rw [IntWalk.i64_in _ (by omega)]; omega) ?_); exact det_refl)
        refine gW ?_
        refine w_nil ?_
        repeat (first | refine gG ?_ | refine zN1 (fun hlen => ?_) | refine zN2 (fun hlen => ?_) | refine zAl (fun _ => ?_) | refine zBx (fun _ => ?_))
        exact ⟨j + 1, hj', by omega, x_wkd 0 ⟨rfl, by rw [ht1, ← Nat.add_assoc (1 + (l.map Ex.count).sum)]; rfl, trivial⟩ rfl (by repeat (first | exact ag_refl | refine ag_upd rfl ?_ | refine ag_at rfl rfl ?_))⟩
      · have hj' : j = rs.length := by
          have : ¬ j < rs.length := by simpa using h
          omega
        subst hj'
        clear h
        rw [List.take_length]
        repeat (first | refine gG ?_ | refine zN1 (fun hlen => ?_) | refine zN2 (fun hlen => ?_) | refine zAl (fun _ => ?_) | refine zBx (fun _ => ?_))
        first | refine zR ?_ | refine zQ ?_
        rfl
end Go.Proofs.YtllgibfmddihgaaDoor
namespace Go.Proofs.YtllgibfmddihgaaDoor
open Go.RowKit
set_option maxRecDepth 100000 in
set_option maxHeartbeats 4000000 in
theorem deep_af (e : Ex) : e.count ≤ 1048576 → AF Tryd.prog 54 [e.t] (· = .lit (.int .i64 ((e.deep : Nat) : Int))) := by
  induction e using Ex.ind with
  | h k0 n0 t0 ns0 ys0 l rs p0 ih ihr =>
    intro hp
    have harm : ∀ r ∈ rs, r.pn ≤ 1048576 ∧ r.body.count ≤ 1048576 ∧ AF Tryd.prog 54 [r.body.t] (· = .lit (.int .i64 ((r.body.deep : Nat) : Int))) := fun r hr => by
      have h1 := sum_mem' Ar.cnt hr
      have h2 := arcnt rs
      rw [Ex.count_eq] at hp
      simp only [Ex.count1, Ex.nexts, Ex.args, Ex.arms, List.map_append, List.sum_append] at hp
      obtain ⟨p, b⟩ := r
      have e1 : (Ar.mk p b).cnt = (Ar.mk p b).pn + b.count := rfl
      dsimp only [Ar.body]
      exact ⟨by omega, by omega, ihr _ hr p b rfl (by omega)⟩
    have harg : ∀ a ∈ l, a.count ≤ 1048576 ∧ AF Tryd.prog 54 [a.t] (· = .lit (.int .i64 ((a.deep : Nat) : Int))) := fun a ha => by
      have h1 := sum_mem' Ex.count ha
      rw [Ex.count_eq] at hp
      simp only [Ex.count1, Ex.nexts, Ex.args, Ex.arms, List.map_append, List.sum_append] at hp
      exact ⟨by omega, ih a ha (by omega)⟩
    have hspec : (Ex.mk k0 n0 t0 ns0 ys0 l rs p0).deep = 1 + max (tops Ex.deep l) (tops Ar.deep rs) := by rw [Ex.deep, Ex.deeps_eq, Ar.deeps_eq]
    have hdl := Nat.le_trans (Ex.mk k0 n0 t0 ns0 ys0 l rs p0).deep_le hp
    rw [hspec] at hdl ⊢
    clear hp
    clear ih ihr
    refine af_enter tok Tryd.func54 Tryd.ntmps54 Tryd.results54 rfl (by kernel_rfl) rfl rfl fun F hX => ?_
    repeat (first | refine gG ?_ | refine zN1 (fun hlen => ?_) | refine zN2 (fun hlen => ?_) | refine zAl (fun _ => ?_) | refine zBf ?_)
    refine x_loop [3, 5, 11, 12, 13, 14, 15, 16, 17, 18, 19] (fun k : Nat => [(11, .c (.lit (.int .i64 (k : Nat)))), (3, .c (.lit (.int .i64 ((tops Ex.deep (l.take k) : Nat) : Int))))]) (fun _ => []) (fun k => k ≤ l.length) (fun k => l.length - k) 0 (Nat.zero_le _) ⟨rfl, rfl, trivial⟩ rfl ?_
    intro k hk
    repeat (first | refine gG ?_ | refine zN1 (fun hlen => ?_) | refine zN2 (fun hlen => ?_) | refine zAl (fun _ => ?_) | refine zBx (fun _ => ?_))
    refine x_cond rfl (fun h => ?_) (fun h => ?_)
    · have hk' : k < l.length := by simpa using h
      obtain ⟨a, ha⟩ := nth hk'
      have hs1 := tops_snoc Ex.deep ha
      obtain ⟨hac, hc⟩ := harg a (List.mem_of_getElem? ha)
      have hade := a.deep_le
      have hat := Ex.at ha
      clear h ha
      have hna : a.deep ≤ 1048576 := Nat.le_trans hade hac
      clear hac hade
      generalize a.deep = na at *
      obtain ⟨kx, nx, tx, nsx, ysx, lx, rsx, px⟩ := a
      repeat (first | refine gG ?_ | refine zN1 (fun hlen => ?_) | refine zN2 (fun hlen => ?_) | refine zAl (fun _ => ?_) | refine zBx (fun _ => ?_))
      refine zIx (k) (hk') ?_
      repeat (first | refine gG ?_ | refine zN1 (fun hlen => ?_) | refine zN2 (fun hlen => ?_) | refine zAl (fun _ => ?_) | refine zBx (fun _ => ?_))
      refine zEl (hat) (Ex.ts_len _) ?_
      repeat (first | refine gG ?_ | refine zN1 (fun hlen => ?_) | refine zN2 (fun hlen => ?_) | refine zAl (fun _ => ?_) | refine zBx (fun _ => ?_))
      refine zCall (hc) ?_
      rintro _ rfl
      repeat (first | refine gG ?_ | refine zN1 (fun hlen => ?_) | refine zN2 (fun hlen => ?_) | refine zAl (fun _ => ?_) | refine zBx (fun _ => ?_))
      refine zMaxr (r := ((max (tops Ex.deep (l.take k)) na : Nat) : Int)) ?_
      repeat (first | refine gG ?_ | refine zN1 (fun hlen => ?_) | refine zN2 (fun hlen => ?_) | refine zAl (fun _ => ?_) | refine zBx (fun _ => ?_))
      exact ⟨k + 1, hk', by omega, x_wkd 0 ⟨rfl, by rw [hs1]; rfl, trivial⟩ rfl (by repeat (first | exact ag_refl | refine ag_upd rfl ?_ | refine ag_at rfl rfl ?_))⟩
    · have hk' : k = l.length := by
        have : ¬ k < l.length := by simpa using h
        omega
      subst hk'
      clear h
      rw [List.take_length]
      repeat (first | refine gG ?_ | refine zN1 (fun hlen => ?_) | refine zN2 (fun hlen => ?_) | refine zAl (fun _ => ?_) | refine zBx (fun _ => ?_))
      refine x_loop [3, 7, 23, 24, 25, 26, 27, 28, 29, 30, 31, 32, 33, 34, 35] (fun k : Nat => [(23, .c (.lit (.int .i64 (k : Nat)))), (3, .c (.lit (.int .i64 ((max (tops Ex.deep l) (tops Ar.deep (rs.take k)) : Nat) : Int))))]) (fun _ => []) (fun k => k ≤ rs.length) (fun k => rs.length - k) 0 (Nat.zero_le _) ⟨rfl, by simp only [List.take_zero, List.map_nil, List.sum_nil, Nat.add_zero, tops, Nat.max_zero]; rfl, trivial⟩ rfl ?_
      intro j hj
      repeat (first | refine gG ?_ | refine zN1 (fun hlen => ?_) | refine zN2 (fun hlen => ?_) | refine zAl (fun _ => ?_) | refine zBx (fun _ => ?_))
      refine x_cond rfl (fun h => ?_) (fun h => ?_)
      · have hj' : j < rs.length := by simpa using h
        obtain ⟨r, hr⟩ := nth hj'
        have ht1 := tops_snoc Ar.deep hr
        obtain ⟨hpn, hbc, hcb⟩ := harm r (List.mem_of_getElem? hr)
        have hcp := patDeep_af r.pat (show r.pat.nodes ≤ 1048576 from hpn)
        have hde := r.body.deep_le
        have hpe : r.pat.deep ≤ r.pn := r.pat.deep_le
        have hrt := Ar.at hr
        rw [show r.deep = max r.pat.deep r.body.deep from rfl] at ht1
        have hbd : r.body.deep ≤ 1048576 := Nat.le_trans hde hbc
        have hpd : r.pat.deep ≤ 1048576 := Nat.le_trans hpe hpn
        clear hde hpe hbc hpn
        generalize r.pat.deep = pd at *
        generalize r.body.deep = bd at *
        clear h hr
        obtain ⟨⟨kp, np, tp, lp⟩, ⟨kb, nb, tb, nsb, ysb, lb, rsb, pb⟩⟩ := r
        dsimp only [Ar.pat, Ar.body] at hcp hcb
        repeat (first | refine gG ?_ | refine zN1 (fun hlen => ?_) | refine zN2 (fun hlen => ?_) | refine zAl (fun _ => ?_) | refine zBx (fun _ => ?_))
        refine zIx (j) (hj') ?_
        repeat (first | refine gG ?_ | refine zN1 (fun hlen => ?_) | refine zN2 (fun hlen => ?_) | refine zAl (fun _ => ?_) | refine zBx (fun _ => ?_))
        refine zEl (hrt) (Ar.ts_len _) ?_
        repeat (first | refine gG ?_ | refine zN1 (fun hlen => ?_) | refine zN2 (fun hlen => ?_) | refine zAl (fun _ => ?_) | refine zBx (fun _ => ?_))
        skip
        refine ac_draw [1, 1, 1, 1, 1, 1, 1, 1, 1] [0, 1, 2, 3, 4, 5, 6, 7, 8] (by kernel_rfl) (by kernel_rfl) ?_
        refine gW ?_
        apply w_q; (focus exact rfl); (focus exact rfl); focus (intro _; (refine zCall hcp ?_; rintro _ rfl); exact det_refl)
        refine gW ?_
        apply w_q; (focus exact rfl); (focus exact rfl); focus (intro _; (refine zCall hcb ?_; rintro _ rfl); exact det_refl)
        apply w_q; (focus exact rfl); (focus exact rfl); focus (intro _; (refine zMax3 (r := ((max (max (tops Ex.deep l) (tops Ar.deep (rs.take j))) (max pd bd) : Nat) : Int)) ?_); exact det_refl)
        refine gW ?_
        refine w_nil ?_
        repeat (first | refine gG ?_ | refine zN1 (fun hlen => ?_) | refine zN2 (fun hlen => ?_) | refine zAl (fun _ => ?_) | refine zBx (fun _ => ?_))
        exact ⟨j + 1, hj', by omega, x_wkd 0 ⟨rfl, by rw [ht1, ← Nat.max_assoc (tops Ex.deep l)]; rfl, trivial⟩ rfl (by repeat (first | exact ag_refl | refine ag_upd rfl ?_ | refine ag_at rfl rfl ?_))⟩
      · have hj' : j = rs.length := by
          have : ¬ j < rs.length := by simpa using h
          omega
        subst hj'
        clear h
        rw [List.take_length]
        repeat (first | refine gG ?_ | refine zN1 (fun hlen => ?_) | refine zN2 (fun hlen => ?_) | refine zAl (fun _ => ?_) | refine zBx (fun _ => ?_))
        first | refine zR ?_ | refine zQ ?_
        rw [Nat.add_comm 1]
        rfl
set_option maxRecDepth 100000 in
set_option maxHeartbeats 4000000 in
theorem deepOf_af (e : Ex) : e.count ≤ 1048576 → AF Tryd.prog 55 [e.t] (· = .lit (.int .i64 ((e.deep : Nat) : Int))) := by
  induction e using Ex.ind with
  | h k0 n0 t0 ns0 ys0 l rs p0 ih ihr =>
    intro hp
    have harm : ∀ r ∈ rs, r.pn ≤ 1048576 ∧ r.body.count ≤ 1048576 ∧ AF Tryd.prog 55 [r.body.t] (· = .lit (.int .i64 ((r.body.deep : Nat) : Int))) := fun r hr => by
      have h1 := sum_mem' Ar.cnt hr
      have h2 := arcnt rs
      rw [Ex.count_eq] at hp
      simp only [Ex.count1, Ex.nexts, Ex.args, Ex.arms, List.map_append, List.sum_append] at hp
      obtain ⟨p, b⟩ := r
      have e1 : (Ar.mk p b).cnt = (Ar.mk p b).pn + b.count := rfl
      dsimp only [Ar.body]
      exact ⟨by omega, by omega, ihr _ hr p b rfl (by omega)⟩
    have harg : ∀ a ∈ l, a.count ≤ 1048576 ∧ AF Tryd.prog 55 [a.t] (· = .lit (.int .i64 ((a.deep : Nat) : Int))) := fun a ha => by
      have h1 := sum_mem' Ex.count ha
      rw [Ex.count_eq] at hp
      simp only [Ex.count1, Ex.nexts, Ex.args, Ex.arms, List.map_append, List.sum_append] at hp
      exact ⟨by omega, ih a ha (by omega)⟩
    have hspec : (Ex.mk k0 n0 t0 ns0 ys0 l rs p0).deep = 1 + max (tops Ex.deep l) (tops Ar.deep rs) := by rw [Ex.deep, Ex.deeps_eq, Ar.deeps_eq]
    have hdl := Nat.le_trans (Ex.mk k0 n0 t0 ns0 ys0 l rs p0).deep_le hp
    rw [hspec] at hdl ⊢
    clear hp
    clear ih ihr
    refine af_enter tok Tryd.func55 Tryd.ntmps55 Tryd.results55 rfl (by kernel_rfl) rfl rfl fun F hX => ?_
    repeat (first | refine gG ?_ | refine zN1 (fun hlen => ?_) | refine zN2 (fun hlen => ?_) | refine zAl (fun _ => ?_) | refine zBf ?_)
    refine x_loop [3, 5, 11, 12, 13, 14, 15, 16, 17, 18, 19, 20] (fun k : Nat => [(11, .c (.lit (.int .i64 (k : Nat)))), (3, .c (.lit (.int .i64 ((1 + tops Ex.deep (l.take k) : Nat) : Int))))]) (fun _ => []) (fun k => k ≤ l.length) (fun k => l.length - k) 0 (Nat.zero_le _) ⟨rfl, rfl, trivial⟩ rfl ?_
    intro k hk
    repeat (first | refine gG ?_ | refine zN1 (fun hlen => ?_) | refine zN2 (fun hlen => ?_) | refine zAl (fun _ => ?_) | refine zBx (fun _ => ?_))
    refine x_cond rfl (fun h => ?_) (fun h => ?_)
    · have hk' : k < l.length := by simpa using h
      obtain ⟨a, ha⟩ := nth hk'
      have hs1 := tops_snoc Ex.deep ha
      obtain ⟨hac, hc⟩ := harg a (List.mem_of_getElem? ha)
      have hade := a.deep_le
      have hat := Ex.at ha
      clear h ha
      have hna : a.deep ≤ 1048576 := Nat.le_trans hade hac
      clear hac hade
      generalize a.deep = na at *
      obtain ⟨kx, nx, tx, nsx, ysx, lx, rsx, px⟩ := a
      repeat (first | refine gG ?_ | refine zN1 (fun hlen => ?_) | refine zN2 (fun hlen => ?_) | refine zAl (fun _ => ?_) | refine zBx (fun _ => ?_))
      refine zIx (k) (hk') ?_
      repeat (first | refine gG ?_ | refine zN1 (fun hlen => ?_) | refine zN2 (fun hlen => ?_) | refine zAl (fun _ => ?_) | refine zBx (fun _ => ?_))
      refine zEl (hat) (Ex.ts_len _) ?_
      repeat (first | refine gG ?_ | refine zN1 (fun hlen => ?_) | refine zN2 (fun hlen => ?_) | refine zAl (fun _ => ?_) | refine zBx (fun _ => ?_))
      refine zCall (hc) ?_
      rintro _ rfl
      repeat (first | refine gG ?_ | refine zN1 (fun hlen => ?_) | refine zN2 (fun hlen => ?_) | refine zAl (fun _ => ?_) | refine zBx (fun _ => ?_))
      refine lo_add rfl rfl (r := ((1 + na : Nat) : Int)) (by rw [IntWalk.i64_in _ (by omega)]; omega) ?_
      repeat (first | refine gG ?_ | refine zN1 (fun hlen => ?_) | refine zN2 (fun hlen => ?_) | refine zAl (fun _ => ?_) | refine zBx (fun _ => ?_))
      refine zMaxr (r := ((1 + max (tops Ex.deep (l.take k)) na : Nat) : Int)) ?_
      repeat (first | refine gG ?_ | refine zN1 (fun hlen => ?_) | refine zN2 (fun hlen => ?_) | refine zAl (fun _ => ?_) | refine zBx (fun _ => ?_))
      exact ⟨k + 1, hk', by omega, x_wkd 0 ⟨rfl, by rw [hs1]; rfl, trivial⟩ rfl (by repeat (first | exact ag_refl | refine ag_upd rfl ?_ | refine ag_at rfl rfl ?_))⟩
    · have hk' : k = l.length := by
        have : ¬ k < l.length := by simpa using h
        omega
      subst hk'
      clear h
      rw [List.take_length]
      repeat (first | refine gG ?_ | refine zN1 (fun hlen => ?_) | refine zN2 (fun hlen => ?_) | refine zAl (fun _ => ?_) | refine zBx (fun _ => ?_))
      refine x_loop [3, 7, 24, 25, 26, 27, 28, 29, 30, 31, 32, 33, 34, 35, 36, 37, 38] (fun k : Nat => [(24, .c (.lit (.int .i64 (k : Nat)))), (3, .c (.lit (.int .i64 ((1 + max (tops Ex.deep l) (tops Ar.deep (rs.take k)) : Nat) : Int))))]) (fun _ => []) (fun k => k ≤ rs.length) (fun k => rs.length - k) 0 (Nat.zero_le _) ⟨rfl, by simp only [List.take_zero, List.map_nil, List.sum_nil, Nat.add_zero, tops, Nat.max_zero]; rfl, trivial⟩ rfl ?_
      intro j hj
      repeat (first | refine gG ?_ | refine zN1 (fun hlen => ?_) | refine zN2 (fun hlen => ?_) | refine zAl (fun _ => ?_) | refine zBx (fun _ => ?_))
      refine x_cond rfl (fun h => ?_) (fun h => ?_)
      · have hj' : j < rs.length := by simpa using h
        obtain ⟨r, hr⟩ := nth hj'
        have ht1 := tops_snoc Ar.deep hr
        obtain ⟨hpn, hbc, hcb⟩ := harm r (List.mem_of_getElem? hr)
        have hcp := height_af r.pat (show r.pat.nodes ≤ 1048576 from hpn)
        have hde := r.body.deep_le
        have hpe : r.pat.deep ≤ r.pn := r.pat.deep_le
        have hrt := Ar.at hr
        rw [show r.deep = max r.pat.deep r.body.deep from rfl] at ht1
        have hbd : r.body.deep ≤ 1048576 := Nat.le_trans hde hbc
        have hpd : r.pat.deep ≤ 1048576 := Nat.le_trans hpe hpn
        clear hde hpe hbc hpn
        generalize r.pat.deep = pd at *
        generalize r.body.deep = bd at *
        clear h hr
        obtain ⟨⟨kp, np, tp, lp⟩, ⟨kb, nb, tb, nsb, ysb, lb, rsb, pb⟩⟩ := r
        dsimp only [Ar.pat, Ar.body] at hcp hcb
        repeat (first | refine gG ?_ | refine zN1 (fun hlen => ?_) | refine zN2 (fun hlen => ?_) | refine zAl (fun _ => ?_) | refine zBx (fun _ => ?_))
        refine zIx (j) (hj') ?_
        repeat (first | refine gG ?_ | refine zN1 (fun hlen => ?_) | refine zN2 (fun hlen => ?_) | refine zAl (fun _ => ?_) | refine zBx (fun _ => ?_))
        refine zEl (hrt) (Ar.ts_len _) ?_
        repeat (first | refine gG ?_ | refine zN1 (fun hlen => ?_) | refine zN2 (fun hlen => ?_) | refine zAl (fun _ => ?_) | refine zBx (fun _ => ?_))
        skip
        refine ac_draw [1, 1, 1, 1, 1, 1, 1, 1, 1, 1, 1] [0, 1, 2, 3, 4, 5, 6, 7, 8, 9, 10] (by kernel_rfl) (by kernel_rfl) ?_
        refine gW ?_
        apply w_q; (focus exact rfl); (focus exact rfl); focus (intro _; (refine zCall hcb ?_; rintro _ rfl); exact det_refl)
        apply w_q; (focus exact rfl); (focus exact rfl); focus (intro _; (refine lo_add rfl rfl (r := ((1 + bd : Nat) : Int)) (by rw [IntWalk.i64_in _ (by omega)]; omega) ?_); exact det_refl)
        refine gW ?_
        apply w_q; (focus exact rfl); (focus exact rfl); focus (intro _; (refine zCall hcp ?_; rintro _ rfl); exact det_refl)
        apply w_q; (focus exact rfl); (focus exact rfl); focus (intro _; (refine lo_add rfl rfl (r := ((1 + pd : Nat) : Int)) (by rw [IntWalk.i64_in _ (by omega)]; omega) ?_); exact det_refl)
        apply w_q; (focus exact rfl); (focus exact rfl); focus (intro _; (refine zMax3 (r := ((1 + max (max (tops Ex.deep l) (tops Ar.deep (rs.take j))) (max pd bd) : Nat) : Int)) ?_); exact det_refl)
        refine gW ?_
        refine w_nil ?_
        repeat (first | refine gG ?_ | refine zN1 (fun hlen => ?_) | refine zN2 (fun hlen => ?_) | refine zAl (fun _ => ?_) | refine zBx (fun _ => ?_))
        exact ⟨j + 1, hj', by omega, x_wkd 0 ⟨rfl, by rw [ht1, ← Nat.max_assoc (tops Ex.deep l)]; rfl, trivial⟩ rfl (by repeat (first | exact ag_refl | refine ag_upd rfl ?_ | refine ag_at rfl rfl ?_))⟩
      · have hj' : j = rs.length := by
          have : ¬ j < rs.length := by simpa using h
          omega
        subst hj'
        clear h
        rw [List.take_length]
        repeat (first | refine gG ?_ | refine zN1 (fun hlen => ?_) | refine zN2 (fun hlen => ?_) | refine zAl (fun _ => ?_) | refine zBx (fun _ => ?_))
        first | refine zR ?_ | refine zQ ?_
        rfl
end Go.Proofs.YtllgibfmddihgaaDoor
namespace Go.Proofs.YtllgibfmddihgaaDoor
open Go.RowKit
def needs (k n : Int) (a : Nat) : Int :=
  bif decide (k = 1) || decide (k = 2) || decide (k = 3) || decide (k = 4) || decide (k = 5) || decide (k = 16) then 0 else bif decide (k = 10) || decide (k = 13) || decide (k = 19) || decide (k = 20) || decide (k = 21) || decide (k = 22) || decide (k = 24) || decide (k = 25) then 1 else bif decide (k = 6) || decide (k = 15) || decide (k = 23) then 2 else bif decide (k = 7) then 3 else bif decide (k = 18) then (bif decide (n < 0) then 0 else 1) else bif decide (k = 8) || decide (k = 9) || decide (k = 12) || decide (k = 14) || decide (k = 17) then (a : Int) else bif decide (k = 11) then ((max a 1 : Nat) : Int) else -1
def Ex.needs : Ex → Int
  | .mk k n _ _ _ l _ _ => Go.Proofs.YtllgibfmddihgaaDoor.needs k n l.length
set_option maxRecDepth 100000 in
set_option maxHeartbeats 4000000 in
theorem needs_af (e : Ex) : AF Tryd.prog 56 [e.t] (· = .lit (.int .i64 e.needs)) := by
  obtain ⟨k, n, t, ns, ys, l, rs, p⟩ := e
  simp only [Ex.needs]
  refine af_enter tok Tryd.func56 Tryd.ntmps56 Tryd.results56 rfl (by kernel_rfl) rfl rfl fun F hX => ?_
  repeat (first | refine gG ?_ | refine zN1 (fun hlen => ?_) | refine zN2 (fun hlen => ?_) | refine zBf ?_)
  refine x_cond rfl (fun h0 => ?_) (fun h0 => ?_)
  · obtain rfl : k = 1 := of_decide_eq_true h0
    clear  h0
    repeat (first | refine gG ?_ | refine zN1 (fun hlen => ?_) | refine zN2 (fun hlen => ?_) | refine zBx (fun _ => ?_))
    first | refine zR ?_ | refine zQ ?_
    rfl
  repeat (first | refine gG ?_ | refine zN1 (fun hlen => ?_) | refine zN2 (fun hlen => ?_) | refine zBx (fun _ => ?_))
  refine x_cond rfl (fun h1 => ?_) (fun h1 => ?_)
  · obtain rfl : k = 2 := of_decide_eq_true h1
    clear h0 h1
    repeat (first | refine gG ?_ | refine zN1 (fun hlen => ?_) | refine zN2 (fun hlen => ?_) | refine zBx (fun _ => ?_))
    first | refine zR ?_ | refine zQ ?_
    rfl
  repeat (first | refine gG ?_ | refine zN1 (fun hlen => ?_) | refine zN2 (fun hlen => ?_) | refine zBx (fun _ => ?_))
  refine x_cond rfl (fun h2 => ?_) (fun h2 => ?_)
  · obtain rfl : k = 3 := of_decide_eq_true h2
    clear h0 h1 h2
    repeat (first | refine gG ?_ | refine zN1 (fun hlen => ?_) | refine zN2 (fun hlen => ?_) | refine zBx (fun _ => ?_))
    first | refine zR ?_ | refine zQ ?_
    rfl
  repeat (first | refine gG ?_ | refine zN1 (fun hlen => ?_) | refine zN2 (fun hlen => ?_) | refine zBx (fun _ => ?_))
  refine x_cond rfl (fun h3 => ?_) (fun h3 => ?_)
  · obtain rfl : k = 4 := of_decide_eq_true h3
    clear h0 h1 h2 h3
    repeat (first | refine gG ?_ | refine zN1 (fun hlen => ?_) | refine zN2 (fun hlen => ?_) | refine zBx (fun _ => ?_))
    first | refine zR ?_ | refine zQ ?_
    rfl
  repeat (first | refine gG ?_ | refine zN1 (fun hlen => ?_) | refine zN2 (fun hlen => ?_) | refine zBx (fun _ => ?_))
  refine x_cond rfl (fun h4 => ?_) (fun h4 => ?_)
  · obtain rfl : k = 5 := of_decide_eq_true h4
    clear h0 h1 h2 h3 h4
    repeat (first | refine gG ?_ | refine zN1 (fun hlen => ?_) | refine zN2 (fun hlen => ?_) | refine zBx (fun _ => ?_))
    first | refine zR ?_ | refine zQ ?_
    rfl
  repeat (first | refine gG ?_ | refine zN1 (fun hlen => ?_) | refine zN2 (fun hlen => ?_) | refine zBx (fun _ => ?_))
  refine x_cond rfl (fun h5 => ?_) (fun h5 => ?_)
  · obtain rfl : k = 16 := of_decide_eq_true h5
    clear h0 h1 h2 h3 h4 h5
    repeat (first | refine gG ?_ | refine zN1 (fun hlen => ?_) | refine zN2 (fun hlen => ?_) | refine zBx (fun _ => ?_))
    first | refine zR ?_ | refine zQ ?_
    rfl
  repeat (first | refine gG ?_ | refine zN1 (fun hlen => ?_) | refine zN2 (fun hlen => ?_) | refine zBx (fun _ => ?_))
  refine x_cond rfl (fun h6 => ?_) (fun h6 => ?_)
  · obtain rfl : k = 10 := of_decide_eq_true h6
    clear h0 h1 h2 h3 h4 h5 h6
    repeat (first | refine gG ?_ | refine zN1 (fun hlen => ?_) | refine zN2 (fun hlen => ?_) | refine zBx (fun _ => ?_))
    first | refine zR ?_ | refine zQ ?_
    rfl
  repeat (first | refine gG ?_ | refine zN1 (fun hlen => ?_) | refine zN2 (fun hlen => ?_) | refine zBx (fun _ => ?_))
  refine x_cond rfl (fun h7 => ?_) (fun h7 => ?_)
  · obtain rfl : k = 13 := of_decide_eq_true h7
    clear h0 h1 h2 h3 h4 h5 h6 h7
    repeat (first | refine gG ?_ | refine zN1 (fun hlen => ?_) | refine zN2 (fun hlen => ?_) | refine zBx (fun _ => ?_))
    first | refine zR ?_ | refine zQ ?_
    rfl
  repeat (first | refine gG ?_ | refine zN1 (fun hlen => ?_) | refine zN2 (fun hlen => ?_) | refine zBx (fun _ => ?_))
  refine x_cond rfl (fun h8 => ?_) (fun h8 => ?_)
  · obtain rfl : k = 19 := of_decide_eq_true h8
    clear h0 h1 h2 h3 h4 h5 h6 h7 h8
    repeat (first | refine gG ?_ | refine zN1 (fun hlen => ?_) | refine zN2 (fun hlen => ?_) | refine zBx (fun _ => ?_))
    first | refine zR ?_ | refine zQ ?_
    rfl
  repeat (first | refine gG ?_ | refine zN1 (fun hlen => ?_) | refine zN2 (fun hlen => ?_) | refine zBx (fun _ => ?_))
  refine x_cond rfl (fun h9 => ?_) (fun h9 => ?_)
  · obtain rfl : k = 20 := of_decide_eq_true h9
    clear h0 h1 h2 h3 h4 h5 h6 h7 h8 h9
    repeat (first | refine gG ?_ | refine zN1 (fun hlen => ?_) | refine zN2 (fun hlen => ?_) | refine zBx (fun _ => ?_))
    first | refine zR ?_ | refine zQ ?_
    rfl
  repeat (first | refine gG ?_ | refine zN1 (fun hlen => ?_) | refine zN2 (fun hlen => ?_) | refine zBx (fun _ => ?_))
  refine x_cond rfl (fun h10 => ?_) (fun h10 => ?_)
  · obtain rfl : k = 21 := of_decide_eq_true h10
    clear h0 h1 h2 h3 h4 h5 h6 h7 h8 h9 h10
    repeat (first | refine gG ?_ | refine zN1 (fun hlen => ?_) | refine zN2 (fun hlen => ?_) | refine zBx (fun _ => ?_))
    first | refine zR ?_ | refine zQ ?_
    rfl
  repeat (first | refine gG ?_ | refine zN1 (fun hlen => ?_) | refine zN2 (fun hlen => ?_) | refine zBx (fun _ => ?_))
  refine x_cond rfl (fun h11 => ?_) (fun h11 => ?_)
  · obtain rfl : k = 22 := of_decide_eq_true h11
    clear h0 h1 h2 h3 h4 h5 h6 h7 h8 h9 h10 h11
    repeat (first | refine gG ?_ | refine zN1 (fun hlen => ?_) | refine zN2 (fun hlen => ?_) | refine zBx (fun _ => ?_))
    first | refine zR ?_ | refine zQ ?_
    rfl
  repeat (first | refine gG ?_ | refine zN1 (fun hlen => ?_) | refine zN2 (fun hlen => ?_) | refine zBx (fun _ => ?_))
  refine x_cond rfl (fun h12 => ?_) (fun h12 => ?_)
  · obtain rfl : k = 24 := of_decide_eq_true h12
    clear h0 h1 h2 h3 h4 h5 h6 h7 h8 h9 h10 h11 h12
    repeat (first | refine gG ?_ | refine zN1 (fun hlen => ?_) | refine zN2 (fun hlen => ?_) | refine zBx (fun _ => ?_))
    first | refine zR ?_ | refine zQ ?_
    rfl
  repeat (first | refine gG ?_ | refine zN1 (fun hlen => ?_) | refine zN2 (fun hlen => ?_) | refine zBx (fun _ => ?_))
  refine x_cond rfl (fun h13 => ?_) (fun h13 => ?_)
  · obtain rfl : k = 25 := of_decide_eq_true h13
    clear h0 h1 h2 h3 h4 h5 h6 h7 h8 h9 h10 h11 h12 h13
    repeat (first | refine gG ?_ | refine zN1 (fun hlen => ?_) | refine zN2 (fun hlen => ?_) | refine zBx (fun _ => ?_))
    first | refine zR ?_ | refine zQ ?_
    rfl
  repeat (first | refine gG ?_ | refine zN1 (fun hlen => ?_) | refine zN2 (fun hlen => ?_) | refine zBx (fun _ => ?_))
  refine x_cond rfl (fun h14 => ?_) (fun h14 => ?_)
  · obtain rfl : k = 6 := of_decide_eq_true h14
    clear h0 h1 h2 h3 h4 h5 h6 h7 h8 h9 h10 h11 h12 h13 h14
    repeat (first | refine gG ?_ | refine zN1 (fun hlen => ?_) | refine zN2 (fun hlen => ?_) | refine zBx (fun _ => ?_))
    first | refine zR ?_ | refine zQ ?_
    rfl
  repeat (first | refine gG ?_ | refine zN1 (fun hlen => ?_) | refine zN2 (fun hlen => ?_) | refine zBx (fun _ => ?_))
  refine x_cond rfl (fun h15 => ?_) (fun h15 => ?_)
  · obtain rfl : k = 15 := of_decide_eq_true h15
    clear h0 h1 h2 h3 h4 h5 h6 h7 h8 h9 h10 h11 h12 h13 h14 h15
    repeat (first | refine gG ?_ | refine zN1 (fun hlen => ?_) | refine zN2 (fun hlen => ?_) | refine zBx (fun _ => ?_))
    first | refine zR ?_ | refine zQ ?_
    rfl
  repeat (first | refine gG ?_ | refine zN1 (fun hlen => ?_) | refine zN2 (fun hlen => ?_) | refine zBx (fun _ => ?_))
  refine x_cond rfl (fun h16 => ?_) (fun h16 => ?_)
  · obtain rfl : k = 23 := of_decide_eq_true h16
    clear h0 h1 h2 h3 h4 h5 h6 h7 h8 h9 h10 h11 h12 h13 h14 h15 h16
    repeat (first | refine gG ?_ | refine zN1 (fun hlen => ?_) | refine zN2 (fun hlen => ?_) | refine zBx (fun _ => ?_))
    first | refine zR ?_ | refine zQ ?_
    rfl
  repeat (first | refine gG ?_ | refine zN1 (fun hlen => ?_) | refine zN2 (fun hlen => ?_) | refine zBx (fun _ => ?_))
  refine x_cond rfl (fun h17 => ?_) (fun h17 => ?_)
  · obtain rfl : k = 7 := of_decide_eq_true h17
    clear h0 h1 h2 h3 h4 h5 h6 h7 h8 h9 h10 h11 h12 h13 h14 h15 h16 h17
    repeat (first | refine gG ?_ | refine zN1 (fun hlen => ?_) | refine zN2 (fun hlen => ?_) | refine zBx (fun _ => ?_))
    first | refine zR ?_ | refine zQ ?_
    rfl
  repeat (first | refine gG ?_ | refine zN1 (fun hlen => ?_) | refine zN2 (fun hlen => ?_) | refine zBx (fun _ => ?_))
  refine x_cond rfl (fun h18 => ?_) (fun h18 => ?_)
  · obtain rfl : k = 18 := of_decide_eq_true h18
    clear h0 h1 h2 h3 h4 h5 h6 h7 h8 h9 h10 h11 h12 h13 h14 h15 h16 h17 h18
    repeat (first | refine gG ?_ | refine zN1 (fun hlen => ?_) | refine zN2 (fun hlen => ?_) | refine zBx (fun _ => ?_))
    refine x_cond rfl (fun h => ?_) (fun h => ?_)
    · repeat (first | refine gG ?_ | refine zN1 (fun hlen => ?_) | refine zN2 (fun hlen => ?_) | refine zBx (fun _ => ?_))
      first | refine zR ?_ | refine zQ ?_
      have h2 : ¬ n < 0 := by have : (0 : Int) ≤ n := of_decide_eq_true h; omega
      simp [needs, outT, h2]
    · repeat (first | refine gG ?_ | refine zN1 (fun hlen => ?_) | refine zN2 (fun hlen => ?_) | refine zBx (fun _ => ?_))
      first | refine zR ?_ | refine zQ ?_
      have h2 : n < 0 := by have : ¬ (0 : Int) ≤ n := of_decide_eq_false h; omega
      simp [needs, outT, h2]
  repeat (first | refine gG ?_ | refine zN1 (fun hlen => ?_) | refine zN2 (fun hlen => ?_) | refine zBx (fun _ => ?_))
  refine x_cond rfl (fun h19 => ?_) (fun h19 => ?_)
  · obtain rfl : k = 8 := of_decide_eq_true h19
    clear h0 h1 h2 h3 h4 h5 h6 h7 h8 h9 h10 h11 h12 h13 h14 h15 h16 h17 h18 h19
    repeat (first | refine gG ?_ | refine zN1 (fun hlen => ?_) | refine zN2 (fun hlen => ?_) | refine zBx (fun _ => ?_))
    first | refine zR ?_ | refine zQ ?_
    rfl
  repeat (first | refine gG ?_ | refine zN1 (fun hlen => ?_) | refine zN2 (fun hlen => ?_) | refine zBx (fun _ => ?_))
  refine x_cond rfl (fun h20 => ?_) (fun h20 => ?_)
  · obtain rfl : k = 9 := of_decide_eq_true h20
    clear h0 h1 h2 h3 h4 h5 h6 h7 h8 h9 h10 h11 h12 h13 h14 h15 h16 h17 h18 h19 h20
    repeat (first | refine gG ?_ | refine zN1 (fun hlen => ?_) | refine zN2 (fun hlen => ?_) | refine zBx (fun _ => ?_))
    first | refine zR ?_ | refine zQ ?_
    rfl
  repeat (first | refine gG ?_ | refine zN1 (fun hlen => ?_) | refine zN2 (fun hlen => ?_) | refine zBx (fun _ => ?_))
  refine x_cond rfl (fun h21 => ?_) (fun h21 => ?_)
  · obtain rfl : k = 12 := of_decide_eq_true h21
    clear h0 h1 h2 h3 h4 h5 h6 h7 h8 h9 h10 h11 h12 h13 h14 h15 h16 h17 h18 h19 h20 h21
    repeat (first | refine gG ?_ | refine zN1 (fun hlen => ?_) | refine zN2 (fun hlen => ?_) | refine zBx (fun _ => ?_))
    first | refine zR ?_ | refine zQ ?_
    rfl
  repeat (first | refine gG ?_ | refine zN1 (fun hlen => ?_) | refine zN2 (fun hlen => ?_) | refine zBx (fun _ => ?_))
  refine x_cond rfl (fun h22 => ?_) (fun h22 => ?_)
  · obtain rfl : k = 14 := of_decide_eq_true h22
    clear h0 h1 h2 h3 h4 h5 h6 h7 h8 h9 h10 h11 h12 h13 h14 h15 h16 h17 h18 h19 h20 h21 h22
    repeat (first | refine gG ?_ | refine zN1 (fun hlen => ?_) | refine zN2 (fun hlen => ?_) | refine zBx (fun _ => ?_))
    first | refine zR ?_ | refine zQ ?_
    rfl
  repeat (first | refine gG ?_ | refine zN1 (fun hlen => ?_) | refine zN2 (fun hlen => ?_) | refine zBx (fun _ => ?_))
  refine x_cond rfl (fun h23 => ?_) (fun h23 => ?_)
  · obtain rfl : k = 17 := of_decide_eq_true h23
    clear h0 h1 h2 h3 h4 h5 h6 h7 h8 h9 h10 h11 h12 h13 h14 h15 h16 h17 h18 h19 h20 h21 h22 h23
    repeat (first | refine gG ?_ | refine zN1 (fun hlen => ?_) | refine zN2 (fun hlen => ?_) | refine zBx (fun _ => ?_))
    first | refine zR ?_ | refine zQ ?_
    rfl
  repeat (first | refine gG ?_ | refine zN1 (fun hlen => ?_) | refine zN2 (fun hlen => ?_) | refine zBx (fun _ => ?_))
  refine x_cond rfl (fun h24 => ?_) (fun h24 => ?_)
  · obtain rfl : k = 11 := of_decide_eq_true h24
    clear h0 h1 h2 h3 h4 h5 h6 h7 h8 h9 h10 h11 h12 h13 h14 h15 h16 h17 h18 h19 h20 h21 h22 h23 h24
    repeat (first | refine gG ?_ | refine zN1 (fun hlen => ?_) | refine zN2 (fun hlen => ?_) | refine zBx (fun _ => ?_))
    refine zMaxr (r := ((max l.length 1 : Nat) : Int)) ?_
    repeat (first | refine gG ?_ | refine zN1 (fun hlen => ?_) | refine zN2 (fun hlen => ?_) | refine zBx (fun _ => ?_))
    first | refine zR ?_ | refine zQ ?_
    rfl
  repeat (first | refine gG ?_ | refine zN1 (fun hlen => ?_) | refine zN2 (fun hlen => ?_) | refine zBx (fun _ => ?_))
  first | refine zR ?_ | refine zQ ?_
  simp only [needs, outT, h0, h1, h2, h3, h4, h5, h6, h7, h8, h9, h10, h11, h12, h13, h14, h15, h16, h17, h18, h19, h20, h21, h22, h23, h24, Bool.false_or, cond_false]
set_option maxRecDepth 100000 in
set_option maxHeartbeats 4000000 in
theorem needsOf_af (e : Ex) : AF Tryd.prog 57 [e.t] (· = .lit (.int .i64 e.needs)) := by
  obtain ⟨k, n, t, ns, ys, l, rs, p⟩ := e
  simp only [Ex.needs]
  refine af_enter tok Tryd.func57 Tryd.ntmps57 Tryd.results57 rfl (by kernel_rfl) rfl rfl fun F hX => ?_
  repeat (first | refine gG ?_ | refine zN1 (fun hlen => ?_) | refine zN2 (fun hlen => ?_) | refine zBf ?_)
  refine x_cond rfl (fun h0 => ?_) (fun h0 => ?_)
  · obtain rfl : k = 1 := of_decide_eq_true h0
    clear  h0
    repeat (first | refine gG ?_ | refine zN1 (fun hlen => ?_) | refine zN2 (fun hlen => ?_) | refine zBx (fun _ => ?_))
    first | refine zR ?_ | refine zQ ?_
    rfl
  repeat (first | refine gG ?_ | refine zN1 (fun hlen => ?_) | refine zN2 (fun hlen => ?_) | refine zBx (fun _ => ?_))
  refine x_cond rfl (fun h1 => ?_) (fun h1 => ?_)
  · obtain rfl : k = 2 := of_decide_eq_true h1
    clear h0 h1
    repeat (first | refine gG ?_ | refine zN1 (fun hlen => ?_) | refine zN2 (fun hlen => ?_) | refine zBx (fun _ => ?_))
    first | refine zR ?_ | refine zQ ?_
    rfl
  repeat (first | refine gG ?_ | refine zN1 (fun hlen => ?_) | refine zN2 (fun hlen => ?_) | refine zBx (fun _ => ?_))
  refine x_cond rfl (fun h2 => ?_) (fun h2 => ?_)
  · obtain rfl : k = 3 := of_decide_eq_true h2
    clear h0 h1 h2
    repeat (first | refine gG ?_ | refine zN1 (fun hlen => ?_) | refine zN2 (fun hlen => ?_) | refine zBx (fun _ => ?_))
    first | refine zR ?_ | refine zQ ?_
    rfl
  repeat (first | refine gG ?_ | refine zN1 (fun hlen => ?_) | refine zN2 (fun hlen => ?_) | refine zBx (fun _ => ?_))
  refine x_cond rfl (fun h3 => ?_) (fun h3 => ?_)
  · obtain rfl : k = 4 := of_decide_eq_true h3
    clear h0 h1 h2 h3
    repeat (first | refine gG ?_ | refine zN1 (fun hlen => ?_) | refine zN2 (fun hlen => ?_) | refine zBx (fun _ => ?_))
    first | refine zR ?_ | refine zQ ?_
    rfl
  repeat (first | refine gG ?_ | refine zN1 (fun hlen => ?_) | refine zN2 (fun hlen => ?_) | refine zBx (fun _ => ?_))
  refine x_cond rfl (fun h4 => ?_) (fun h4 => ?_)
  · obtain rfl : k = 5 := of_decide_eq_true h4
    clear h0 h1 h2 h3 h4
    repeat (first | refine gG ?_ | refine zN1 (fun hlen => ?_) | refine zN2 (fun hlen => ?_) | refine zBx (fun _ => ?_))
    first | refine zR ?_ | refine zQ ?_
    rfl
  repeat (first | refine gG ?_ | refine zN1 (fun hlen => ?_) | refine zN2 (fun hlen => ?_) | refine zBx (fun _ => ?_))
  refine x_cond rfl (fun h5 => ?_) (fun h5 => ?_)
  · obtain rfl : k = 16 := of_decide_eq_true h5
    clear h0 h1 h2 h3 h4 h5
    repeat (first | refine gG ?_ | refine zN1 (fun hlen => ?_) | refine zN2 (fun hlen => ?_) | refine zBx (fun _ => ?_))
    first | refine zR ?_ | refine zQ ?_
    rfl
  repeat (first | refine gG ?_ | refine zN1 (fun hlen => ?_) | refine zN2 (fun hlen => ?_) | refine zBx (fun _ => ?_))
  refine x_cond rfl (fun h6 => ?_) (fun h6 => ?_)
  · obtain rfl : k = 10 := of_decide_eq_true h6
    clear h0 h1 h2 h3 h4 h5 h6
    repeat (first | refine gG ?_ | refine zN1 (fun hlen => ?_) | refine zN2 (fun hlen => ?_) | refine zBx (fun _ => ?_))
    first | refine zR ?_ | refine zQ ?_
    rfl
  repeat (first | refine gG ?_ | refine zN1 (fun hlen => ?_) | refine zN2 (fun hlen => ?_) | refine zBx (fun _ => ?_))
  refine x_cond rfl (fun h7 => ?_) (fun h7 => ?_)
  · obtain rfl : k = 13 := of_decide_eq_true h7
    clear h0 h1 h2 h3 h4 h5 h6 h7
    repeat (first | refine gG ?_ | refine zN1 (fun hlen => ?_) | refine zN2 (fun hlen => ?_) | refine zBx (fun _ => ?_))
    first | refine zR ?_ | refine zQ ?_
    rfl
  repeat (first | refine gG ?_ | refine zN1 (fun hlen => ?_) | refine zN2 (fun hlen => ?_) | refine zBx (fun _ => ?_))
  refine x_cond rfl (fun h8 => ?_) (fun h8 => ?_)
  · obtain rfl : k = 19 := of_decide_eq_true h8
    clear h0 h1 h2 h3 h4 h5 h6 h7 h8
    repeat (first | refine gG ?_ | refine zN1 (fun hlen => ?_) | refine zN2 (fun hlen => ?_) | refine zBx (fun _ => ?_))
    first | refine zR ?_ | refine zQ ?_
    rfl
  repeat (first | refine gG ?_ | refine zN1 (fun hlen => ?_) | refine zN2 (fun hlen => ?_) | refine zBx (fun _ => ?_))
  refine x_cond rfl (fun h9 => ?_) (fun h9 => ?_)
  · obtain rfl : k = 20 := of_decide_eq_true h9
    clear h0 h1 h2 h3 h4 h5 h6 h7 h8 h9
    repeat (first | refine gG ?_ | refine zN1 (fun hlen => ?_) | refine zN2 (fun hlen => ?_) | refine zBx (fun _ => ?_))
    first | refine zR ?_ | refine zQ ?_
    rfl
  repeat (first | refine gG ?_ | refine zN1 (fun hlen => ?_) | refine zN2 (fun hlen => ?_) | refine zBx (fun _ => ?_))
  refine x_cond rfl (fun h10 => ?_) (fun h10 => ?_)
  · obtain rfl : k = 21 := of_decide_eq_true h10
    clear h0 h1 h2 h3 h4 h5 h6 h7 h8 h9 h10
    repeat (first | refine gG ?_ | refine zN1 (fun hlen => ?_) | refine zN2 (fun hlen => ?_) | refine zBx (fun _ => ?_))
    first | refine zR ?_ | refine zQ ?_
    rfl
  repeat (first | refine gG ?_ | refine zN1 (fun hlen => ?_) | refine zN2 (fun hlen => ?_) | refine zBx (fun _ => ?_))
  refine x_cond rfl (fun h11 => ?_) (fun h11 => ?_)
  · obtain rfl : k = 22 := of_decide_eq_true h11
    clear h0 h1 h2 h3 h4 h5 h6 h7 h8 h9 h10 h11
    repeat (first | refine gG ?_ | refine zN1 (fun hlen => ?_) | refine zN2 (fun hlen => ?_) | refine zBx (fun _ => ?_))
    first | refine zR ?_ | refine zQ ?_
    rfl
  repeat (first | refine gG ?_ | refine zN1 (fun hlen => ?_) | refine zN2 (fun hlen => ?_) | refine zBx (fun _ => ?_))
  refine x_cond rfl (fun h12 => ?_) (fun h12 => ?_)
  · obtain rfl : k = 24 := of_decide_eq_true h12
    clear h0 h1 h2 h3 h4 h5 h6 h7 h8 h9 h10 h11 h12
    repeat (first | refine gG ?_ | refine zN1 (fun hlen => ?_) | refine zN2 (fun hlen => ?_) | refine zBx (fun _ => ?_))
    first | refine zR ?_ | refine zQ ?_
    rfl
  repeat (first | refine gG ?_ | refine zN1 (fun hlen => ?_) | refine zN2 (fun hlen => ?_) | refine zBx (fun _ => ?_))
  refine x_cond rfl (fun h13 => ?_) (fun h13 => ?_)
  · obtain rfl : k = 25 := of_decide_eq_true h13
    clear h0 h1 h2 h3 h4 h5 h6 h7 h8 h9 h10 h11 h12 h13
    repeat (first | refine gG ?_ | refine zN1 (fun hlen => ?_) | refine zN2 (fun hlen => ?_) | refine zBx (fun _ => ?_))
    first | refine zR ?_ | refine zQ ?_
    rfl
  repeat (first | refine gG ?_ | refine zN1 (fun hlen => ?_) | refine zN2 (fun hlen => ?_) | refine zBx (fun _ => ?_))
  refine x_cond rfl (fun h14 => ?_) (fun h14 => ?_)
  · obtain rfl : k = 6 := of_decide_eq_true h14
    clear h0 h1 h2 h3 h4 h5 h6 h7 h8 h9 h10 h11 h12 h13 h14
    repeat (first | refine gG ?_ | refine zN1 (fun hlen => ?_) | refine zN2 (fun hlen => ?_) | refine zBx (fun _ => ?_))
    first | refine zR ?_ | refine zQ ?_
    rfl
  repeat (first | refine gG ?_ | refine zN1 (fun hlen => ?_) | refine zN2 (fun hlen => ?_) | refine zBx (fun _ => ?_))
  refine x_cond rfl (fun h15 => ?_) (fun h15 => ?_)
  · obtain rfl : k = 15 := of_decide_eq_true h15
    clear h0 h1 h2 h3 h4 h5 h6 h7 h8 h9 h10 h11 h12 h13 h14 h15
    repeat (first | refine gG ?_ | refine zN1 (fun hlen => ?_) | refine zN2 (fun hlen => ?_) | refine zBx (fun _ => ?_))
    first | refine zR ?_ | refine zQ ?_
    rfl
  repeat (first | refine gG ?_ | refine zN1 (fun hlen => ?_) | refine zN2 (fun hlen => ?_) | refine zBx (fun _ => ?_))
  refine x_cond rfl (fun h16 => ?_) (fun h16 => ?_)
  · obtain rfl : k = 23 := of_decide_eq_true h16
    clear h0 h1 h2 h3 h4 h5 h6 h7 h8 h9 h10 h11 h12 h13 h14 h15 h16
    repeat (first | refine gG ?_ | refine zN1 (fun hlen => ?_) | refine zN2 (fun hlen => ?_) | refine zBx (fun _ => ?_))
    first | refine zR ?_ | refine zQ ?_
    rfl
  repeat (first | refine gG ?_ | refine zN1 (fun hlen => ?_) | refine zN2 (fun hlen => ?_) | refine zBx (fun _ => ?_))
  refine x_cond rfl (fun h17 => ?_) (fun h17 => ?_)
  · obtain rfl : k = 7 := of_decide_eq_true h17
    clear h0 h1 h2 h3 h4 h5 h6 h7 h8 h9 h10 h11 h12 h13 h14 h15 h16 h17
    repeat (first | refine gG ?_ | refine zN1 (fun hlen => ?_) | refine zN2 (fun hlen => ?_) | refine zBx (fun _ => ?_))
    first | refine zR ?_ | refine zQ ?_
    rfl
  repeat (first | refine gG ?_ | refine zN1 (fun hlen => ?_) | refine zN2 (fun hlen => ?_) | refine zBx (fun _ => ?_))
  refine x_cond rfl (fun h18 => ?_) (fun h18 => ?_)
  · obtain rfl : k = 18 := of_decide_eq_true h18
    clear h0 h1 h2 h3 h4 h5 h6 h7 h8 h9 h10 h11 h12 h13 h14 h15 h16 h17 h18
    repeat (first | refine gG ?_ | refine zN1 (fun hlen => ?_) | refine zN2 (fun hlen => ?_) | refine zBx (fun _ => ?_))
    refine x_cond rfl (fun h => ?_) (fun h => ?_)
    · repeat (first | refine gG ?_ | refine zN1 (fun hlen => ?_) | refine zN2 (fun hlen => ?_) | refine zBx (fun _ => ?_))
      first | refine zR ?_ | refine zQ ?_
      simp [needs, outT, h]
    · repeat (first | refine gG ?_ | refine zN1 (fun hlen => ?_) | refine zN2 (fun hlen => ?_) | refine zBx (fun _ => ?_))
      first | refine zR ?_ | refine zQ ?_
      simp [needs, outT, h]
  repeat (first | refine gG ?_ | refine zN1 (fun hlen => ?_) | refine zN2 (fun hlen => ?_) | refine zBx (fun _ => ?_))
  refine x_cond rfl (fun h19 => ?_) (fun h19 => ?_)
  · obtain rfl : k = 8 := of_decide_eq_true h19
    clear h0 h1 h2 h3 h4 h5 h6 h7 h8 h9 h10 h11 h12 h13 h14 h15 h16 h17 h18 h19
    repeat (first | refine gG ?_ | refine zN1 (fun hlen => ?_) | refine zN2 (fun hlen => ?_) | refine zBx (fun _ => ?_))
    first | refine zR ?_ | refine zQ ?_
    rfl
  repeat (first | refine gG ?_ | refine zN1 (fun hlen => ?_) | refine zN2 (fun hlen => ?_) | refine zBx (fun _ => ?_))
  refine x_cond rfl (fun h20 => ?_) (fun h20 => ?_)
  · obtain rfl : k = 9 := of_decide_eq_true h20
    clear h0 h1 h2 h3 h4 h5 h6 h7 h8 h9 h10 h11 h12 h13 h14 h15 h16 h17 h18 h19 h20
    repeat (first | refine gG ?_ | refine zN1 (fun hlen => ?_) | refine zN2 (fun hlen => ?_) | refine zBx (fun _ => ?_))
    first | refine zR ?_ | refine zQ ?_
    rfl
  repeat (first | refine gG ?_ | refine zN1 (fun hlen => ?_) | refine zN2 (fun hlen => ?_) | refine zBx (fun _ => ?_))
  refine x_cond rfl (fun h21 => ?_) (fun h21 => ?_)
  · obtain rfl : k = 12 := of_decide_eq_true h21
    clear h0 h1 h2 h3 h4 h5 h6 h7 h8 h9 h10 h11 h12 h13 h14 h15 h16 h17 h18 h19 h20 h21
    repeat (first | refine gG ?_ | refine zN1 (fun hlen => ?_) | refine zN2 (fun hlen => ?_) | refine zBx (fun _ => ?_))
    first | refine zR ?_ | refine zQ ?_
    rfl
  repeat (first | refine gG ?_ | refine zN1 (fun hlen => ?_) | refine zN2 (fun hlen => ?_) | refine zBx (fun _ => ?_))
  refine x_cond rfl (fun h22 => ?_) (fun h22 => ?_)
  · obtain rfl : k = 14 := of_decide_eq_true h22
    clear h0 h1 h2 h3 h4 h5 h6 h7 h8 h9 h10 h11 h12 h13 h14 h15 h16 h17 h18 h19 h20 h21 h22
    repeat (first | refine gG ?_ | refine zN1 (fun hlen => ?_) | refine zN2 (fun hlen => ?_) | refine zBx (fun _ => ?_))
    first | refine zR ?_ | refine zQ ?_
    rfl
  repeat (first | refine gG ?_ | refine zN1 (fun hlen => ?_) | refine zN2 (fun hlen => ?_) | refine zBx (fun _ => ?_))
  refine x_cond rfl (fun h23 => ?_) (fun h23 => ?_)
  · obtain rfl : k = 17 := of_decide_eq_true h23
    clear h0 h1 h2 h3 h4 h5 h6 h7 h8 h9 h10 h11 h12 h13 h14 h15 h16 h17 h18 h19 h20 h21 h22 h23
    repeat (first | refine gG ?_ | refine zN1 (fun hlen => ?_) | refine zN2 (fun hlen => ?_) | refine zBx (fun _ => ?_))
    first | refine zR ?_ | refine zQ ?_
    rfl
  repeat (first | refine gG ?_ | refine zN1 (fun hlen => ?_) | refine zN2 (fun hlen => ?_) | refine zBx (fun _ => ?_))
  refine x_cond rfl (fun h24 => ?_) (fun h24 => ?_)
  · obtain rfl : k = 11 := of_decide_eq_true h24
    clear h0 h1 h2 h3 h4 h5 h6 h7 h8 h9 h10 h11 h12 h13 h14 h15 h16 h17 h18 h19 h20 h21 h22 h23 h24
    repeat (first | refine gG ?_ | refine zN1 (fun hlen => ?_) | refine zN2 (fun hlen => ?_) | refine zBx (fun _ => ?_))
    refine zMaxr (r := ((max l.length 1 : Nat) : Int)) ?_
    repeat (first | refine gG ?_ | refine zN1 (fun hlen => ?_) | refine zN2 (fun hlen => ?_) | refine zBx (fun _ => ?_))
    first | refine zR ?_ | refine zQ ?_
    rfl
  repeat (first | refine gG ?_ | refine zN1 (fun hlen => ?_) | refine zN2 (fun hlen => ?_) | refine zBx (fun _ => ?_))
  first | refine zR ?_ | refine zQ ?_
  simp only [needs, outT, h0, h1, h2, h3, h4, h5, h6, h7, h8, h9, h10, h11, h12, h13, h14, h15, h16, h17, h18, h19, h20, h21, h22, h23, h24, Bool.false_or, cond_false]
end Go.Proofs.YtllgibfmddihgaaDoor
