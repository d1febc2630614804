/-
  Texts of this proof, part 10: The Thf Thg Ab36 Thh Thi Ab37 Thj Tzi.
-/
import Derived.Test.YtllgibfmddihgaaDoorQSchemeSays9
import Derived.Laws.Strings2
import Derived.Lib.AppendStr
import Derived.Lib.MinMax
namespace Go.Proofs.YtllgibfmddihgaaDoor
open Go.RowKit
set_option maxRecDepth 100000 in
set_option maxHeartbeats 1000000 in
theorem name_af (n : Int) (h : inI n) : AF Tryd.prog 47 [.lit (.int .i64 n)] (· = .lit (.string (nameQ n))) := by
  have hc := itoa_af n h
  have hl := numB_le h
  have hl2 : (Lib.itoa n).length ≤ 21 := by
    simp only [numB, List.length_append] at hl
    omega
  unfold nameQ
  clear hl
  generalize Lib.itoa n = L at *
  refine af_enter tok Tryd.func47 Tryd.ntmps47 Tryd.results47 rfl (by kernel_rfl) rfl rfl fun F hX => ?_
  repeat (first | refine gG ?_)
  refine zCall (hc) ?_
  rintro _ rfl
  repeat (first | refine gG ?_)
  refine zCatb [63] L (by simp; omega) ?_
  repeat (first | refine gG ?_)
  first | refine zR ?_ | refine zQ ?_
  rfl
/-- the unknowns that stand for a scheme's parameters -/
def freshY (n : Nat) (k : Nat) : Y := .mk 5 (nameQ ((n + k : Nat) : Int)) []
def freshL (n m : Nat) : List Y := (List.range m).map (freshY n)
theorem freshL_succ (n m : Nat) : freshL n (m + 1) = freshL n m ++ [freshY n m] := by simp [freshL, List.range_succ]
theorem freshL_len (n m : Nat) : (freshL n m).length = m := by simp [freshL]
theorem fresh_mass (n k : Nat) (h : n + k ≤ 9223372036854775807) : (freshY n k).mass ≤ 30 := by
  have hl := numB_le (n := ((n + k : Nat) : Int)) (inI_nat h)
  simp only [numB, List.length_append] at hl
  unfold freshY nameQ
  rw [Y.mass, bs_size']
  have h5 : far 5 = 1 := rfl
  simp only [Y.masses, List.length_append, List.length_cons, List.length_nil, h5] at hl ⊢
  omega
set_option maxRecDepth 100000 in
set_option maxHeartbeats 1000000 in
theorem fresh_af (s : Sc) (n : Nat) (hs : s.mass ≤ 1048576) (hn : n ≤ 1000000) : AF Tryd.prog 45 [s.t, .lit (.int .i64 (n : Nat))] (· = .tup [(s.ty.put s.params (freshL n s.params.length)).t, .lit (.int .i64 ((n + s.params.length : Nat) : Int))]) := by
  have hpl : s.params.length ≤ 1048576 := by have := strSize_len s.params; unfold Sc.mass at hs; omega
  have hc := put_af s.params (freshL n s.params.length) (fun v hv => by
    obtain ⟨j, hj, rfl⟩ := List.mem_map.1 hv
    have := fresh_mass n j (by have := List.mem_range.1 hj; omega)
    omega) s.ty (by unfold Sc.mass at hs; omega)
  have hnm : ∀ k, k ≤ 1048576 → AF Tryd.prog 47 [.lit (.int .i64 ((n + k : Nat) : Int))] (· = .lit (.string (nameQ ((n + k : Nat) : Int)))) := fun k hk => name_af _ (inI_nat (by omega))
  clear hs
  obtain ⟨ps, y⟩ := s
  dsimp only at *
  generalize y.put ps (freshL n ps.length) = x at *
  obtain ⟨k, t, a⟩ := y
  obtain ⟨xk, xn, xl⟩ := x
  refine af_enter tok Tryd.func45 Tryd.ntmps45 Tryd.results45 rfl (by kernel_rfl) rfl rfl fun F hX => ?_
  repeat (first | refine gG ?_ | refine zN1 (fun hlen => ?_) | refine zN2 (fun hlen => ?_) | refine zAl (fun _ => ?_) | refine zBf ?_ | refine zAp (fun _ => ?_))
  rename_i b4
  refine x_own 6 64 3 rfl rfl rfl rfl rfl ?_
  refine x_loop [1, 6, 10, 11, 12, 13, 14, 15, 16, 17, 18, 19, 20] (fun y : Nat × Value => [(10, .c (.lit (.int .i64 (y.1 : Nat)))), (1, .c (.lit (.int .i64 ((n + y.1 : Nat) : Int)))), (6, .own 1 y.2)]) (fun y => [.box b4 64 [.c (.lit (.int .i64 0)), .c (.lit (.string ⟨#[]⟩)), .c (.lit (.slice none 0 0))], .row y.2 64 3 (freshL n y.1).length (Y.all (freshL n y.1))]) (fun y => y.1 ≤ ps.length) (fun y => ps.length - y.1) (0, .slice none 0 0) (Nat.zero_le _) ⟨rfl, rfl, rfl, trivial⟩ rfl ?_
  rintro ⟨j, u⟩ hj
  dsimp only at hj ⊢
  repeat (first | refine gG ?_ | refine zN1 (fun hlen => ?_) | refine zN2 (fun hlen => ?_) | refine zAl (fun _ => ?_) | refine zBx (fun _ => ?_) | refine zAp (fun _ => ?_))
  refine x_cond rfl (fun h => ?_) (fun h => ?_)
  · have hj' : j < ps.length := by simpa using h
    have hca := hnm j (by omega)
    have hl1 : (freshL n (j + 1)).length = (freshL n j).length + 1 := by rw [freshL_len, freshL_len]
    have hc1 : Y.all (freshL n (j + 1)) = Y.all (freshL n j) ++ [.lit (.int .i64 5), .lit (.string (nameQ ((n + j : Nat) : Int))), Y.row []] := by rw [freshL_succ, Y.all_app]; rfl
    have hfl := freshL_len n j
    clear h hnm hc
    repeat (first | refine gG ?_ | refine zN1 (fun hlen => ?_) | refine zN2 (fun hlen => ?_) | refine zAl (fun _ => ?_) | refine zBx (fun _ => ?_) | refine zAp (fun _ => ?_))
    refine zCall (hca) ?_
    rintro _ rfl
    clear hca
    generalize nameQ ((n + j : Nat) : Int) = nq at *
    repeat (first | refine gX ?_ | refine zN1 (fun hlen => ?_) | refine zN2 (fun hlen => ?_) | refine zAl (fun _ => ?_) | refine zBx (fun _ => ?_) | refine zAp (fun _ => ?_))
    refine zBs (ts := [.lit (.int .i64 5), .lit (.string nq), Y.row []]) ?_
    repeat (first | refine gG ?_ | refine zN1 (fun hlen => ?_) | refine zN2 (fun hlen => ?_) | refine zAl (fun _ => ?_) | refine zBx (fun _ => ?_) | refine zAp (fun _ => ?_))
    exact ⟨(j + 1, _), hj', by simp only; omega, x_wkd 2 ⟨rfl, rfl, rfl, trivial⟩ (by simp only [hl1, hc1]; rfl) (by repeat (first | exact ag_refl | refine ag_upd rfl ?_ | refine ag_at rfl rfl ?_))⟩
  · have hj' : j = ps.length := by
      have : ¬ j < ps.length := by simpa using h
      omega
    subst hj'
    clear h hnm
    refine x_fz 6 rfl rfl rfl rfl ?_
    repeat (first | refine gG ?_ | refine zN1 (fun hlen => ?_) | refine zN2 (fun hlen => ?_) | refine zAl (fun _ => ?_) | refine zBx (fun _ => ?_) | refine zAp (fun _ => ?_))
    refine zCall (hc) ?_
    rintro _ rfl
    clear hc
    repeat (first | refine gG ?_ | refine zN1 (fun hlen => ?_) | refine zN2 (fun hlen => ?_) | refine zAl (fun _ => ?_) | refine zBx (fun _ => ?_) | refine zAp (fun _ => ?_))
    first | refine zR ?_ | refine zQ ?_
    rfl
end Go.Proofs.YtllgibfmddihgaaDoor
namespace Go.Proofs.YtllgibfmddihgaaDoor
open Go.RowKit
/-- a scheme for a type: what is free around it stays -/
def closeS (env : List Sc) (y : Y) : Sc := ⟨notP (hasS (env.flatMap Sc.free)) (y.unks []), y⟩
set_option maxRecDepth 100000 in
set_option maxHeartbeats 1000000 in
theorem close1_ag (fr : List ByteArray) (ms : List (ByteArray × T)) (hs : SeenOk ms fr) (b c : Nat) (a : ByteArray) : AG Tryd.prog 131 [.c (.lit (.string a)), .ptr 0 b 0] [.box b 194 [.own 1 (.map (some c))], .mp c (mkeys Value.string ms)] (fun r hs => r = .c (.lit (.bool (hasS fr a))) ∧ hs = [.box b 194 [.own 1 (.map (some c))], .mp c (mkeys Value.string ms)]) := by
  have hlk := hs a
  clear hs
  generalize hasS fr a = q at *
  refine ag_enter 2 tok Tryd.func131 Tryd.ntmps131 Tryd.results131 rfl (by kernel_rfl) rfl fun F => ?_
  repeat (first | refine gG ?_)
  refine zLks 9 4 hlk ?_
  repeat (first | refine gG ?_)
  refine zG ?_
  exact ⟨rfl, rfl⟩
set_option maxRecDepth 100000 in
set_option maxHeartbeats 2000000 in
theorem close_af (env : List Sc) (y : Y) (he : ∀ s ∈ env, s.mass ≤ 1048576) (hel : env.length ≤ 1048576) (hy : y.mass ≤ 1048576) : AF Tryd.prog 41 [Sc.row env, y.t] (· = (closeS env y).t) := by
  have hu := unknowns_ag y hy
  have hul : (y.unks []).length ≤ 1048576 := by have := unks_len y []; simp only [List.length_nil] at this; omega
  have hd := fun fr ms (hs : SeenOk ms fr) b c v => delStrs2_ag (hasS fr) 131 b c (mkeys Value.string ms) (y.unks []) v hul (fun a _ => close1_ag fr ms hs b c a)
  have hpl := plain_af y hy
  have hfree : ∀ s ∈ env, AF Tryd.prog 40 [s.t] (· = strRow s.free) := fun s hs => schemeFree_af s (he s hs)
  have hflen : ∀ s ∈ env, s.free.length ≤ 1048576 := fun s hs => Nat.le_trans s.free_len (he s hs)
  unfold closeS
  clear he
  generalize y.unks [] = U at *
  obtain ⟨k, t, l⟩ := y
  refine af_enter tok Tryd.func41 Tryd.ntmps41 Tryd.results41 rfl (by kernel_rfl) rfl rfl fun F hX => ?_
  repeat (first | refine ac_seq ?_ | refine ac_block ?_ | refine ac_region ?_)
  repeat (first | refine gO ?_ | refine zN1 (fun hlen => ?_) | refine zN2 (fun hlen => ?_) | refine zAl (fun _ => ?_) | refine zBf ?_)
  rename_i b4
  repeat (first | refine ac_seq ?_ | refine ac_block ?_ | refine ac_region ?_)
  refine zOp ?_
  refine zMm (fun c => ?_)
  repeat (first | refine gG ?_ | refine zN1 (fun hlen => ?_) | refine zN2 (fun hlen => ?_) | refine zAl (fun _ => ?_) | refine zBx (fun _ => ?_))
  rename_i b5
  refine x_loop [7, 9, 14, 15, 16, 17, 18, 19, 20, 21, 22, 23, 24, 25, 26, 27, 28] (fun z : Nat × List (ByteArray × T) => [(14, .c (.lit (.int .i64 (z.1 : Nat))))]) (fun z => [.box b4 87 [.c (.lit (.slice none 0 0)), .c (.lit (.int .i64 0)), .c (.lit (.string ⟨#[]⟩)), .c (.lit (.slice none 0 0))], .mp c (mkeys Value.string z.2), .box b5 194 [.own 1 (.map (some c))]]) (fun z => z.1 ≤ env.length ∧ SeenOk z.2 ((env.take z.1).flatMap Sc.free)) (fun z => env.length - z.1) (0, []) ⟨Nat.zero_le _, fun _ => rfl⟩ ⟨rfl, trivial⟩ rfl ?_
  rintro ⟨j, ms⟩ ⟨hj, hs⟩
  dsimp only at hj hs ⊢
  repeat (first | refine gG ?_ | refine zN1 (fun hlen => ?_) | refine zN2 (fun hlen => ?_) | refine zAl (fun _ => ?_) | refine zBx (fun _ => ?_))
  refine x_cond rfl (fun h => ?_) (fun h => ?_)
  · have hj' : j < env.length := by simpa using h
    obtain ⟨a, ha⟩ := nth hj'
    have hfa := hfree a (List.mem_of_getElem? ha)
    have hla := hflen a (List.mem_of_getElem? ha)
    have hat := Sc.at ha
    have hsn := flat_snoc' Sc.free ha
    clear h ha hfree hflen hd hu hpl
    generalize a.free = F1 at *
    obtain ⟨aps, ⟨ak, atx, al⟩⟩ := a
    repeat (first | refine gG ?_ | refine zN1 (fun hlen => ?_) | refine zN2 (fun hlen => ?_) | refine zAl (fun _ => ?_) | refine zBx (fun _ => ?_))
    refine zIx (j) (hj') ?_
    repeat (first | refine gG ?_ | refine zN1 (fun hlen => ?_) | refine zN2 (fun hlen => ?_) | refine zAl (fun _ => ?_) | refine zBx (fun _ => ?_))
    refine zEl (hat) (Sc.ts_len _) ?_
    repeat (first | refine gG ?_ | refine zN1 (fun hlen => ?_) | refine zN2 (fun hlen => ?_) | refine zAl (fun _ => ?_) | refine zBx (fun _ => ?_))
    rename_i b7
    refine zCall (hfa) ?_
    rintro _ rfl
    clear hfa
    repeat (first | refine gG ?_ | refine zN1 (fun hlen => ?_) | refine zN2 (fun hlen => ?_) | refine zAl (fun _ => ?_) | refine zBx (fun _ => ?_))
    refine x_drop 3 rfl ?_
    refine x_loop [9, 21, 22, 23, 24, 25, 26, 27] (fun z : Nat × List (ByteArray × T) => [(21, .c (.lit (.int .i64 (z.1 : Nat))))]) (fun z => [.box b4 87 [.c (.lit (.slice none 0 0)), .c (.lit (.int .i64 0)), .c (.lit (.string ⟨#[]⟩)), .c (.lit (.slice none 0 0))], .mp c (mkeys Value.string z.2), .box b5 194 [.own 1 (.map (some c))]]) (fun z => z.1 ≤ F1.length ∧ SeenOk z.2 ((env.take j).flatMap Sc.free ++ F1.take z.1)) (fun z => F1.length - z.1) (0, ms) ⟨Nat.zero_le _, by simpa using hs⟩ ⟨rfl, trivial⟩ rfl ?_
    rintro ⟨i, m2⟩ ⟨hi, hs2⟩
    dsimp only at hi hs2 ⊢
    repeat (first | refine gG ?_ | refine zN1 (fun hlen => ?_) | refine zN2 (fun hlen => ?_) | refine zAl (fun _ => ?_) | refine zBx (fun _ => ?_))
    refine x_cond rfl (fun h => ?_) (fun h => ?_)
    · have hi' : i < F1.length := by simpa using h
      obtain ⟨s, hsi⟩ := nth hi'
      have hat2 := str_at hsi
      rw [← Nat.mul_one i] at hat2
      have hs3 := hs2.put s
      have htk : (env.take j).flatMap Sc.free ++ F1.take i ++ [s] = (env.take j).flatMap Sc.free ++ F1.take (i + 1) := by rw [List.take_add_one, hsi]; simp
      rw [htk] at hs3
      clear h hsi htk hs2 hs hsn
      repeat (first | refine gG ?_ | refine zN1 (fun hlen => ?_) | refine zN2 (fun hlen => ?_) | refine zAl (fun _ => ?_) | refine zBx (fun _ => ?_))
      refine zIx i hi' ?_
      repeat (first | refine gG ?_ | refine zN1 (fun hlen => ?_) | refine zN2 (fun hlen => ?_) | refine zAl (fun _ => ?_) | refine zBx (fun _ => ?_))
      refine zEl1 hat2 ?_
      repeat (first | refine gG ?_ | refine zN1 (fun hlen => ?_) | refine zN2 (fun hlen => ?_) | refine zAl (fun _ => ?_) | refine zBx (fun _ => ?_))
      refine zUps 9 4 ?_
      repeat (first | refine gG ?_ | refine zN1 (fun hlen => ?_) | refine zN2 (fun hlen => ?_) | refine zAl (fun _ => ?_) | refine zBx (fun _ => ?_))
      exact ⟨(i + 1, _), ⟨hi', hs3⟩, by simp only; omega, x_wkd 3 ⟨rfl, trivial⟩ rfl (by repeat (first | exact ag_refl | refine ag_upd rfl ?_ | refine ag_at rfl rfl ?_))⟩
    · have hi' : i = F1.length := by
        have : ¬ i < F1.length := by simpa using h
        omega
      subst hi'
      clear h
      rw [List.take_length, ← hsn] at hs2
      clear hs hsn
      repeat (first | refine gG ?_ | refine zN1 (fun hlen => ?_) | refine zN2 (fun hlen => ?_) | refine zAl (fun _ => ?_) | refine zBx (fun _ => ?_))
      exact ⟨(j + 1, m2), ⟨hj', hs2⟩, by simp only; omega, x_wkd 3 ⟨rfl, trivial⟩ rfl (by repeat (first | exact ag_refl | refine ag_upd rfl ?_ | refine ag_at rfl rfl ?_))⟩
  · have hj' : j = env.length := by
      have : ¬ j < env.length := by simpa using h
      omega
    subst hj'
    clear h hfree hflen
    rw [List.take_length] at hs
    have hd1 := hd _ ms hs b5 c
    generalize env.flatMap Sc.free = FR at *
    clear hd hs
    repeat (first | refine gG ?_ | refine zN1 (fun hlen => ?_) | refine zN2 (fun hlen => ?_) | refine zAl (fun _ => ?_) | refine zBx (fun _ => ?_))
    refine zCall (hpl) ?_
    rintro _ rfl
    clear hpl
    repeat (first | refine gG ?_ | refine zN1 (fun hlen => ?_) | refine zN2 (fun hlen => ?_) | refine zAl (fun _ => ?_) | refine zBx (fun _ => ?_))
    refine zCallG [] hu ?_
    rintro _ _ ⟨v, x0, x1, x2, x3, rfl, rfl⟩
    refine ⟨.own 8 v, _, re_own, rfl, rfl, ?_⟩
    clear hu
    repeat (first | refine gG ?_ | refine zN1 (fun hlen => ?_) | refine zN2 (fun hlen => ?_) | refine zAl (fun _ => ?_) | refine zBx (fun _ => ?_))
    refine zCallG [2, 1, 8] (hd1 v) ?_
    rintro _ _ ⟨v', rfl, rfl⟩
    refine ⟨.own 8 v', _, re_own, rfl, rfl, ?_⟩
    clear hd1
    repeat (first | refine gG ?_ | refine zN1 (fun hlen => ?_) | refine zN2 (fun hlen => ?_) | refine zAl (fun _ => ?_) | refine zBx (fun _ => ?_))
    first | refine zR ?_ | refine zQ ?_
    rfl
end Go.Proofs.YtllgibfmddihgaaDoor
namespace Go.Proofs.YtllgibfmddihgaaDoor
open Go.RowKit
theorem same_iff (x : Y) : ∀ y : Y, x.same y = true ↔ x = y := by
  induction x using Y.ind with
  | h k t l ih =>
    rintro ⟨k', t', l'⟩
    have hl : ∀ (l l' : List Y), (∀ v ∈ l, ∀ y, v.same y = true ↔ v = y) → (Y.sames l l' = true ↔ l = l') := by
      intro l
      induction l with
      | nil =>
        intro l' _
        cases l' with
        | nil => simp [Y.sames]
        | cons b r => simp [Y.sames]
      | cons a l ih2 =>
        intro l' h
        cases l' with
        | nil => simp [Y.sames]
        | cons b r =>
          have h1 := h a (by simp) b
          have h2 := ih2 r fun v hv => h v (List.mem_cons_of_mem _ hv)
          simp only [Y.sames, Bool.and_eq_true, h1, h2, List.cons.injEq]
    have := hl l l' ih
    simp only [Y.same, Bool.and_eq_true, decide_eq_true_eq, this, Y.mk.injEq]
def Y.kd : Y → Int
  | .mk k _ _ => k
def Y.nm : Y → ByteArray
  | .mk _ t _ => t
def Y.as : Y → List Y
  | .mk _ _ l => l
abbrev Bnd := List (ByteArray × Y)
def yget (t : ByteArray) : Bnd → Option Y
  | [] => none
  | p :: m => bif decide (p.1 = t) then some p.2 else yget t m
theorem yget_some {t : ByteArray} {x : Y} : ∀ {m : Bnd}, yget t m = some x → (t, x) ∈ m
  | [], h => by cases h
  | p :: m, h => by
    rw [yget] at h
    cases d : decide (p.1 = t)
    · rw [d] at h
      exact List.mem_cons_of_mem _ (yget_some h)
    · rw [d] at h
      obtain ⟨p1, p2⟩ := p
      have h1 : p1 = t := by simpa using d
      have h2 : p2 = x := by simpa using h
      subst h1; subst h2
      simp
theorem yget_none {t : ByteArray} : ∀ {m : Bnd}, yget t m = none → ∀ x, (t, x) ∉ m
  | [], _, x => by simp
  | p :: m, h, x => by
    rw [yget] at h
    cases d : decide (p.1 = t)
    · rw [d] at h
      intro hm
      rcases List.mem_cons.1 hm with rfl | hm
      · simp at d
      · exact yget_none h x hm
    · rw [d] at h; cases h
/-- one type for each name -/
def Fun1 (S : Bnd) : Prop := ∀ t x y, (t, x) ∈ S → (t, y) ∈ S → x = y
theorem Fun1.congr {S S' : Bnd} (h : ∀ p, p ∈ S ↔ p ∈ S') : Fun1 S ↔ Fun1 S' :=
  ⟨fun f t x y h1 h2 => f t x y ((h _).2 h1) ((h _).2 h2), fun f t x y h1 h2 => f t x y ((h _).1 h1) ((h _).1 h2)⟩
def parB (ps : List ByteArray) (k : Int) (t : ByteArray) : Bool := decide (k = 5) && hasS ps t
def headB (k : Int) (t : ByteArray) (l : List Y) (b : Y) : Bool := decide (k = b.kd) && (decide (t = b.nm) && decide (((l.length : Nat) : Int) = ((b.as.length : Nat) : Int)))
mutual
def matchY (ps : List ByteArray) : Y → Y → Bnd → Bool × Bnd
  | .mk k t l, b, m => bif parB ps k t then (match yget t m with | some x => (x.same b, m) | none => (true, m ++ [(t, b)])) else bif headB k t l b then matchL ps l b.as m else (false, m)
def matchL (ps : List ByteArray) : List Y → List Y → Bnd → Bool × Bnd
  | [], _, m => (true, m)
  | _ :: _, [], m => (true, m)
  | a :: l, b :: bs, m => match matchY ps a b m with | (true, m') => matchL ps l bs m' | (false, m') => (false, m')
end
mutual
def eqs (ps : List ByteArray) : Y → Y → Option Bnd
  | .mk k t l, b => bif parB ps k t then some [(t, b)] else bif headB k t l b then eqsL ps l b.as else none
def eqsL (ps : List ByteArray) : List Y → List Y → Option Bnd
  | [], _ => some []
  | _ :: _, [] => some []
  | a :: l, b :: bs => match eqs ps a b, eqsL ps l bs with | some x, some y => some (x ++ y) | _, _ => none
end
def Matches (e : Option Bnd) (m : Bnd) (r : Bool × Bnd) : Prop :=
  (r.1 = true → ∃ L, e = some L ∧ Fun1 r.2 ∧ ∀ p, p ∈ r.2 ↔ p ∈ m ∨ p ∈ L) ∧ (r.1 = false → ∀ L, e = some L → ¬ Fun1 (m ++ L))
theorem matchL_ok (ps : List ByteArray) : ∀ (l : List Y), (∀ a ∈ l, ∀ b m, Fun1 m → Matches (eqs ps a b) m (matchY ps a b m)) → ∀ (bs : List Y) (m : Bnd), Fun1 m → Matches (eqsL ps l bs) m (matchL ps l bs m)
  | [], _, bs, m, hm => by
    rw [eqsL, matchL]
    exact ⟨fun _ => ⟨[], rfl, hm, by simp⟩, fun h => by cases h⟩
  | a :: l, _, [], m, hm => by
    rw [eqsL, matchL]
    exact ⟨fun _ => ⟨[], rfl, hm, by simp⟩, fun h => by cases h⟩
  | a :: l, h, b :: bs, m, hm => by
    rw [eqsL, matchL]
    have h1 := h a (by simp) b m hm
    rcases hr : matchY ps a b m with ⟨r1, m'⟩
    rw [hr] at h1
    cases r1 with
    | true =>
      obtain ⟨L, he, hf, hp⟩ := h1.1 rfl
      have h2 := matchL_ok ps l (fun x hx => h x (List.mem_cons_of_mem _ hx)) bs m' hf
      dsimp only
      rw [he]
      refine ⟨fun ht => ?_, fun hfa L2 hL2 hF => ?_⟩
      · obtain ⟨L', he', hf', hp'⟩ := h2.1 ht
        rw [he']
        refine ⟨L ++ L', rfl, hf', fun p => ?_⟩
        rw [hp', hp, List.mem_append, or_assoc]
      · cases he' : eqsL ps l bs with
        | none => rw [he'] at hL2; cases hL2
        | some L' =>
          rw [he'] at hL2
          have hL : L2 = L ++ L' := by simpa using hL2.symm
          subst hL
          refine h2.2 hfa L' he' ((Fun1.congr fun p => ?_).1 hF)
          simp only [List.mem_append, hp, or_assoc]
    | false =>
      dsimp only
      refine ⟨fun ht => (by cases ht), fun _ L2 hL2 hF => ?_⟩
      cases he : eqs ps a b with
      | none => rw [he] at hL2; cases hL2
      | some L =>
        rw [he] at hL2
        cases he' : eqsL ps l bs with
        | none => rw [he'] at hL2; cases hL2
        | some L' =>
          rw [he'] at hL2
          have hL : L2 = L ++ L' := by simpa using hL2.symm
          subst hL
          refine h1.2 rfl L he fun t x y hx hy => hF t x y ?_ ?_
          · rcases List.mem_append.1 hx with h | h <;> simp [h]
          · rcases List.mem_append.1 hy with h | h <;> simp [h]
theorem matchY_ok (ps : List ByteArray) (a : Y) : ∀ (b : Y) (m : Bnd), Fun1 m → Matches (eqs ps a b) m (matchY ps a b m) := by
  induction a using Y.ind with
  | h k t l ih =>
    intro b m hm
    rw [eqs, matchY]
    cases hpb : parB ps k t with
    | true =>
      simp only [cond]
      cases hg : yget t m with
      | some x =>
        have hx := yget_some hg
        dsimp only
        refine ⟨fun ht => ⟨[(t, b)], rfl, hm, fun p => ?_⟩, fun hf L hL hF => ?_⟩
        · have hxb := (same_iff x b).1 ht
          subst hxb
          constructor
          · exact .inl
          · rintro (h | h)
            · exact h
            · rw [List.mem_singleton.1 h]; exact hx
        · have hL' : L = [(t, b)] := by simpa using hL.symm
          subst hL'
          have hxb := hF t x b (by simp [hx]) (by simp)
          rw [(same_iff x b).2 hxb] at hf
          cases hf
      | none =>
        have hn := yget_none hg
        dsimp only
        refine ⟨fun _ => ⟨[(t, b)], rfl, ?_, fun p => by rw [List.mem_append]⟩, fun hf => by cases hf⟩
        intro t' x y hx hy
        rcases List.mem_append.1 hx with h1 | h1 <;> rcases List.mem_append.1 hy with h2 | h2
        · exact hm t' x y h1 h2
        · obtain ⟨rfl, rfl⟩ : t' = t ∧ y = b := by simpa using h2
          exact absurd h1 (hn x)
        · obtain ⟨rfl, rfl⟩ : t' = t ∧ x = b := by simpa using h1
          exact absurd h2 (hn y)
        · obtain ⟨rfl, rfl⟩ : t' = t ∧ x = b := by simpa using h1
          have := List.mem_singleton.1 h2
          simpa using this.symm
    | false =>
      simp only [cond]
      cases hh : headB k t l b with
      | true => exact matchL_ok ps l ih b.as m hm
      | false => exact ⟨fun ht => (by cases ht), fun _ L hL => by cases hL⟩
/-- the pairs of a row are solved together -/
def eqsQ (ps : List ByteArray) : List (Y × Y) → Option Bnd
  | [] => some []
  | q :: Q => match eqs ps q.1 q.2, eqsQ ps Q with | some x, some y => some (x ++ y) | _, _ => none
def Good (ps : List ByteArray) (m : Bnd) (Q : List (Y × Y)) : Prop := ∃ L, eqsQ ps Q = some L ∧ Fun1 (m ++ L)
theorem good_match (ps : List ByteArray) (a b : Y) : (matchY ps a b []).1 = true ↔ Good ps [] [(a, b)] := by
  have h := matchY_ok ps a b [] fun t x y hx => by cases hx
  rcases hr : matchY ps a b [] with ⟨r, m'⟩
  rw [hr] at h
  unfold Good
  rw [eqsQ, eqsQ]
  dsimp only
  cases r with
  | true =>
    obtain ⟨L, he, hf, hp⟩ := h.1 rfl
    rw [he]
    refine ⟨fun _ => ⟨L ++ [], rfl, ?_⟩, fun _ => rfl⟩
    refine (Fun1.congr fun p => ?_).1 hf
    rw [hp]
    simp
  | false =>
    refine ⟨fun h => (by cases h), fun ⟨L, hL, hF⟩ => ?_⟩
    cases he : eqs ps a b with
    | none => rw [he] at hL; cases hL
    | some L' =>
      rw [he] at hL
      have hLL : L = L' := by simpa using hL.symm
      subst hLL
      exact absurd hF (h.2 rfl L he)
theorem eqsL_zip (ps : List ByteArray) : ∀ (l l' : List Y), eqsL ps l l' = eqsQ ps (l.zip l')
  | [], _ => by rw [eqsL, List.zip_nil_left, eqsQ]
  | _ :: _, [] => by rw [eqsL, List.zip_nil_right, eqsQ]
  | a :: l, b :: l' => by rw [eqsL, List.zip_cons_cons, eqsQ, eqsL_zip ps l l']
theorem eqsQ_app (ps : List ByteArray) : ∀ (P Q : List (Y × Y)), eqsQ ps (P ++ Q) = match eqsQ ps P, eqsQ ps Q with | some x, some y => some (x ++ y) | _, _ => none
  | [], Q => by
    rw [List.nil_append, eqsQ]
    cases eqsQ ps Q <;> rfl
  | p :: P, Q => by
    rw [List.cons_append, eqsQ, eqsQ, eqsQ_app ps P Q]
    cases eqs ps p.1 p.2 <;> cases eqsQ ps P <;> cases eqsQ ps Q <;> simp
theorem good_nil (ps : List ByteArray) {m : Bnd} (h : Fun1 m) : Good ps m [] := ⟨[], rfl, by simpa using h⟩
theorem good_bind (ps : List ByteArray) (m : Bnd) {k : Int} {t : ByteArray} {l : List Y} {b : Y} (h : parB ps k t = true) (Q : List (Y × Y)) : Good ps m ((.mk k t l, b) :: Q) ↔ Good ps (m ++ [(t, b)]) Q := by
  unfold Good
  rw [eqsQ]
  dsimp only
  rw [eqs, h]
  simp only [cond]
  constructor
  · rintro ⟨L, hL, hF⟩
    cases he : eqsQ ps Q with
    | none => rw [he] at hL; cases hL
    | some L' =>
      rw [he] at hL
      have : L = [(t, b)] ++ L' := by simpa using hL.symm
      subst this
      exact ⟨L', rfl, by rw [List.append_assoc]; exact hF⟩
  · rintro ⟨L', hL, hF⟩
    rw [hL]
    exact ⟨[(t, b)] ++ L', rfl, by rw [← List.append_assoc]; exact hF⟩
theorem good_have (ps : List ByteArray) (m : Bnd) {k : Int} {t : ByteArray} {l : List Y} {b : Y} (h : parB ps k t = true) (hm : (t, b) ∈ m) (Q : List (Y × Y)) : Good ps m ((.mk k t l, b) :: Q) ↔ Good ps m Q := by
  rw [good_bind ps m h]
  unfold Good
  refine exists_congr fun L => and_congr Iff.rfl (Fun1.congr fun p => ?_)
  simp only [List.mem_append, List.mem_singleton]
  constructor
  · rintro ((h | rfl) | h)
    · exact .inl h
    · exact .inl hm
    · exact .inr h
  · rintro (h | h)
    · exact .inl (.inl h)
    · exact .inr h
theorem good_clash (ps : List ByteArray) {m : Bnd} {k : Int} {t : ByteArray} {l : List Y} {b x : Y} (h : parB ps k t = true) (hm : (t, x) ∈ m) (hx : x ≠ b) (Q : List (Y × Y)) : ¬ Good ps m ((.mk k t l, b) :: Q) := by
  rw [good_bind ps m h]
  rintro ⟨L, _, hF⟩
  exact hx (hF t x b (by simp [hm]) (by simp))
theorem good_off (ps : List ByteArray) (m : Bnd) {k : Int} {t : ByteArray} {l : List Y} {b : Y} (h : parB ps k t = false) (hh : headB k t l b = false) (Q : List (Y × Y)) : ¬ Good ps m ((.mk k t l, b) :: Q) := by
  rintro ⟨L, hL, _⟩
  rw [eqsQ] at hL
  dsimp only at hL
  rw [eqs, h, hh] at hL
  cases hL
theorem good_in (ps : List ByteArray) (m : Bnd) {k : Int} {t : ByteArray} {l : List Y} {b : Y} (h : parB ps k t = false) (hh : headB k t l b = true) (Q : List (Y × Y)) : Good ps m ((.mk k t l, b) :: Q) ↔ Good ps m (Q ++ l.zip b.as) := by
  unfold Good
  rw [eqsQ, eqsQ_app]
  dsimp only
  rw [eqs, h, hh]
  simp only [cond]
  rw [eqsL_zip]
  cases h1 : eqsQ ps (l.zip b.as) <;> cases h2 : eqsQ ps Q
  · simp
  · simp
  · simp
  · rename_i x y
    dsimp only
    constructor
    · rintro ⟨L, hL, hF⟩
      have : L = x ++ y := by simpa using hL.symm
      subst this
      refine ⟨y ++ x, rfl, (Fun1.congr fun p => ?_).1 hF⟩
      simp only [List.mem_append]
      exact or_congr Iff.rfl or_comm
    · rintro ⟨L, hL, hF⟩
      have : L = y ++ x := by simpa using hL.symm
      subst this
      refine ⟨x ++ y, rfl, (Fun1.congr fun p => ?_).1 hF⟩
      simp only [List.mem_append]
      exact or_congr Iff.rfl or_comm
end Go.Proofs.YtllgibfmddihgaaDoor
namespace Go.Proofs.YtllgibfmddihgaaDoor
open Go.RowKit
theorem lits_rts (M : Mm) (l : List Value) : RTs M (l.map fun v => T.lit v) l := lits_rt M l
section
variable {P : Program} {F : Frm} {L : Tab} {d : Option Tmp} {ty : TypeId} {pos : String} {aft : Array Edge} {g : Option (Nat × Bool)} {ρ : Operand → AV} {hp : List Blk} {K : AV → List Blk → Prop} {α : Type} [DecidableEq α] {κ : α → Value} {dk : TypeDesc} {te : TI} {x y : Operand} {i b : Nat}
theorem lo_lookup_agg (hκ : KeyIs dk κ) (hL : TabOk P L) {xT kT eT : TypeId} {l : List (α × T)} {k : α} (hu : P.underlying xT = some (.map kT eT)) (hk : P.underlying kT = some dk) (hte : L.look eT = some te) (ha : te.agg = true) (hx : ρ x = .own i (.map (some b))) (hi : hp[i]? = some (.mp b (mkeys κ l))) (hy : ρ y = .c (.lit (κ k)))
    (h : K (.c (.tup [(mget k l).getD (.agg (te.zero.map fun v => T.lit v)), .lit (.bool (mget k l).isSome)])) hp) : LO P F ⟨d, .lookup xT x y true, ty, pos, aft, g⟩ ρ hp K := by
  refine LO.same (fun M e w he hh => ?_) h
  have h1 := he x (by first | (simp [Op.operands]; done) | simp [Op.operands, Call.operands])
  rw [hx] at h1
  simp only [RA] at h1
  have h2 := he y (by first | (simp [Op.operands]; done) | simp [Op.operands, Call.operands])
  rw [hy] at h2
  simp only [RA, RT] at h2
  obtain ⟨es, clock, hb, hkeys, hvals⟩ := hh.at_ i _ hi
  have hkeys' : es.map (·.key) = l.map (fun p => κ p.1) := by rw [hkeys]; simp [mkeys]
  have hvals' : RTs M (l.map (·.2)) (es.map (·.val)) := by simpa [mkeys, Function.comp_def] using hvals
  rcases find_keys hκ k l es 0 hkeys' with ⟨f1, f2, _⟩ | ⟨j, e', t, f1, f2, f3, f4, _⟩
  · obtain ⟨inf, zv, g1, _, _, g2, g3, g4, g5⟩ := hL.info hte
    rw [ha] at g5
    obtain ⟨a, rfl⟩ : ∃ a, zv = .agg a := by cases zv <;> simp_all
    have hza : a.toList = te.zero := g3
    have hzr : (zeroValue eT).run P w = .ok (.agg a) w := by simp [zeroValue, typeInfo, g1, g2]
    refine ⟨.tuple #[.agg a, .bool false], ?_, by rw [f2]; simp only [Option.getD_none, Option.isSome_none, RA, RT, RTs]; exact ⟨[.agg a, .bool false], rfl, _, _, rfl, ⟨te.zero, by rw [← hza], lits_rts M te.zero⟩, _, _, rfl, rfl, rfl⟩⟩
    simp [execOp, Instr.lookup, h1.1, h2, run_underlying hu, MapKept.run_getObj_map hb, MapKept.run_checkKey hk (hκ.is k), MapKept.run_findKey hk f1, hzr]
  · obtain ⟨u, hu1, hu2⟩ := hvals'.get (j := j) (t := t) (by rw [List.getElem?_map, f3]; rfl)
    rw [List.getElem?_map, f2] at hu1
    obtain rfl : e'.val = u := by simpa using hu1
    refine ⟨.tuple #[e'.val, .bool true], ?_, by rw [f4]; simp only [Option.getD_some, Option.isSome_some, RA, RT, RTs]; exact ⟨[e'.val, .bool true], rfl, _, _, rfl, hu2, _, _, rfl, rfl, rfl⟩⟩
    simp [execOp, Instr.lookup, h1.1, h2, run_underlying hu, MapKept.run_getObj_map hb, MapKept.run_checkKey hk (hκ.is k), MapKept.run_findKey hk f1]
end
section
variable {P : Program} {F : Frm} {L : Tab} {d : Option Tmp} {ty : TypeId} {pos : String} {aft : Array Edge} {g : Option (Nat × Bool)} {ρ : Operand → AV} {hp : List Blk} {K : AV → List Blk → Prop} {te : TI} {x y : Operand} {i b : Nat} {xT : TypeId}
theorem zLksa (kT eT : TypeId) {s : ByteArray} {l : List (ByteArray × T)} {zs : List T} {t : T} {c : Bool} (ht : (mget s l).getD (.agg zs) = t) (hc : (mget s l).isSome = c) (h : K (.c (.tup [t, .lit (.bool c)])) hp) (hL : TabOk P L := by exact tok) (hu : isMap P xT = some (kT, eT) := by kernel_rfl) (hk : P.underlying kT = some .string := by kernel_rfl) (hte : L.look eT = some te := by exact rfl) (hz : te.zero.map (fun v => T.lit v) = zs := by exact rfl) (ha : te.agg = true := by exact rfl) (hx : ρ x = .own i (.map (some b)) := by exact rfl) (hi : hp[i]? = some (.mp b (mkeys Value.string l)) := by exact rfl) (hy : ρ y = .c (.lit (.string s)) := by exact rfl) :
    LO P F ⟨d, .lookup xT x y true, ty, pos, aft, g⟩ ρ hp K := lo_lookup_agg keyStr hL (isMap_eq hu) hk hte ha hx hi hy (by rw [hz, ht, hc]; exact h)
end
end Go.Proofs.YtllgibfmddihgaaDoor
namespace Go.Proofs.YtllgibfmddihgaaDoor
open Go.RowKit
/-- bindings asq a map's entries -/
def mT (m : Bnd) : List (ByteArray × T) := m.map fun p => (p.1, p.2.t)
theorem mget_mT (s : ByteArray) : ∀ m : Bnd, mget s (mT m) = (yget s m).map Y.t
  | [] => rfl
  | p :: m => by
    rw [mT, List.map_cons, mget, yget]
    by_cases h : p.1 = s
    · rw [if_pos h.symm, decide_eq_true h]; rfl
    · rw [if_neg (Ne.symm h), decide_eq_false h]; exact mget_mT s m
theorem mput_mT {s : ByteArray} {y : Y} : ∀ {m : Bnd}, yget s m = none → mput s y.t (mT m) = mT (m ++ [(s, y)])
  | [], _ => rfl
  | p :: m, h => by
    rw [yget] at h
    have hp : p.1 ≠ s := fun e => by rw [decide_eq_true e] at h; cases h
    rw [decide_eq_false hp] at h
    have ih := mput_mT (y := y) h
    rw [mT, List.map_cons, mput, if_neg (Ne.symm hp), List.cons_append]
    rw [mT, List.map_cons]
    exact congrArg _ ih
def BL (bm c1 c2 : Nat) (M1 : List (ByteArray × T)) (m : Bnd) : List Blk := [.mp c1 (mkeys Value.string M1), .mp c2 (mkeys Value.string (mT m)), .box bm 197 [.own 0 (.map (some c1)), .own 1 (.map (some c2))]]
def MatchR (bm c1 c2 : Nat) (M1 : List (ByteArray × T)) (q : Bool × Bnd) (r : AV) (hs : List Blk) : Prop := r = .c (.lit (.bool q.1)) ∧ hs = BL bm c1 c2 M1 q.2
/-- both rows, if they are of one length -/
def matchE (ps : List ByteArray) (l r : List Y) (m : Bnd) : Bool × Bnd := bif decide (((l.length : Nat) : Int) = ((r.length : Nat) : Int)) then matchL ps l r m else (false, m)
theorem matchL_drop (ps : List ByteArray) {l r : List Y} {k : Nat} {a b : Y} (ha : l[k]? = some a) (hb : r[k]? = some b) (m : Bnd) : matchL ps (l.drop k) (r.drop k) m = match matchY ps a b m with | (true, m') => matchL ps (l.drop (k + 1)) (r.drop (k + 1)) m' | (false, m') => (false, m') := by
  rw [drop_cons1 ha, drop_cons1 hb, matchL]
  all_goals (rcases matchY ps a b m with ⟨_ | _, m'⟩ <;> rfl)
set_option maxRecDepth 100000 in
set_option maxHeartbeats 1000000 in
theorem eqMatch_ag (ps : List ByteArray) (bm c1 c2 : Nat) (M1 : List (ByteArray × T)) (l r : List Y) (hf : ∀ a ∈ l, ∀ b m, AG Tryd.prog 133 [.ptr 2 bm 0, .c a.t, .c b.t] (BL bm c1 c2 M1 m) (MatchR bm c1 c2 M1 (matchY ps a b m))) (m : Bnd) :
    AG Tryd.prog 81 [.c (Y.row l), .c (Y.row r), .own 0 (bfn 133 bm 0)] (BL bm c1 c2 M1 m) (MatchR bm c1 c2 M1 (matchE ps l r m)) := by
  unfold matchE
  by_cases hl : ((l.length : Nat) : Int) = ((r.length : Nat) : Int)
  rotate_left
  · have d : decide (((l.length : Nat) : Int) = ((r.length : Nat) : Int)) = false := decide_eq_false hl
    rw [d]
    simp only [cond]
    unfold BL MatchR
    clear hf
    refine ag_enter 3 tok Tryd.func81 Tryd.ntmps81 Tryd.results81 rfl (by kernel_rfl) rfl fun F => ?_
    repeat (first | refine gG ?_ | refine zN1 (fun hlen => ?_) | refine zN2 (fun hlen => ?_) | refine zAl (fun _ => ?_))
    refine zG ?_
    exact ⟨rfl, rfl⟩
  have d : decide (((l.length : Nat) : Int) = ((r.length : Nat) : Int)) = true := decide_eq_true hl
  rw [d]
  simp only [cond]
  unfold BL MatchR at *
  generalize hR : matchL ps l r m = R
  refine ag_enter 3 tok Tryd.func81 Tryd.ntmps81 Tryd.results81 rfl (by kernel_rfl) rfl fun F => ?_
  repeat (first | refine gG ?_ | refine zN1 (fun hlen => ?_) | refine zN2 (fun hlen => ?_) | refine zAl (fun _ => ?_))
  refine x_loop [6, 7, 8, 9, 17, 18, 19, 20, 21, 22, 23, 24, 25, 26, 27, 28, 29, 30, 31] (fun z : Nat × Bnd => [(17, .c (.lit (.int .i64 (z.1 : Nat))))]) (fun z => [.mp c1 (mkeys Value.string M1), .mp c2 (mkeys Value.string (mT z.2)), .box bm 197 [.own 0 (.map (some c1)), .own 1 (.map (some c2))]]) (fun z => z.1 ≤ l.length ∧ matchL ps (l.drop z.1) (r.drop z.1) z.2 = R) (fun z => l.length - z.1) (0, m) ⟨Nat.zero_le _, hR⟩ ⟨rfl, trivial⟩ rfl ?_
  clear hR
  rintro ⟨k, m2⟩ ⟨hk, hR⟩
  dsimp only at hk hR ⊢
  repeat (first | refine gG ?_ | refine zN1 (fun hlen => ?_) | refine zN2 (fun hlen => ?_) | refine zAl (fun _ => ?_))
  refine x_cond rfl (fun h => ?_) (fun h => ?_)
  · have hk' : k < l.length := by simpa using h
    have hkr : k < r.length := by omega
    obtain ⟨a, ha⟩ := nth hk'
    obtain ⟨b, hb⟩ := nth hkr
    have hfa := hf a (List.mem_of_getElem? ha) b m2
    rw [matchL_drop ps ha hb] at hR
    have hat := Y.at ha
    have hbt := Y.at hb
    clear h ha hb hf
    generalize matchY ps a b m2 = q at *
    obtain ⟨q1, m3⟩ := q
    obtain ⟨ka, ta, la⟩ := a
    obtain ⟨kb, tb, lb⟩ := b
    cases q1
    · dsimp only at hR
      repeat (first | refine gG ?_ | refine zN1 (fun hlen => ?_) | refine zN2 (fun hlen => ?_) | refine zAl (fun _ => ?_))
      refine zIx (k) (hk') ?_
      repeat (first | refine gG ?_ | refine zN1 (fun hlen => ?_) | refine zN2 (fun hlen => ?_) | refine zAl (fun _ => ?_))
      refine zEl (hat) (Y.ts_len _) ?_
      repeat (first | refine gG ?_ | refine zN1 (fun hlen => ?_) | refine zN2 (fun hlen => ?_) | refine zAl (fun _ => ?_))
      refine zIx (k) (hkr) ?_
      repeat (first | refine gG ?_ | refine zN1 (fun hlen => ?_) | refine zN2 (fun hlen => ?_) | refine zAl (fun _ => ?_))
      refine zEl (hbt) (Y.ts_len _) ?_
      repeat (first | refine gG ?_ | refine zN1 (fun hlen => ?_) | refine zN2 (fun hlen => ?_) | refine zAl (fun _ => ?_))
      refine zCallGb [0, 1, 2] hfa ?_
      rintro _ _ ⟨rfl, rfl⟩
      refine ⟨.c _, _, re_refl, rfl, rfl, ?_⟩
      clear hfa
      repeat (first | refine gG ?_ | refine zN1 (fun hlen => ?_) | refine zN2 (fun hlen => ?_) | refine zAl (fun _ => ?_))
      refine zG ?_
      rw [← hR]
      exact ⟨rfl, rfl⟩
    · dsimp only at hR
      repeat (first | refine gG ?_ | refine zN1 (fun hlen => ?_) | refine zN2 (fun hlen => ?_) | refine zAl (fun _ => ?_))
      refine zIx (k) (hk') ?_
      repeat (first | refine gG ?_ | refine zN1 (fun hlen => ?_) | refine zN2 (fun hlen => ?_) | refine zAl (fun _ => ?_))
      refine zEl (hat) (Y.ts_len _) ?_
      repeat (first | refine gG ?_ | refine zN1 (fun hlen => ?_) | refine zN2 (fun hlen => ?_) | refine zAl (fun _ => ?_))
      refine zIx (k) (hkr) ?_
      repeat (first | refine gG ?_ | refine zN1 (fun hlen => ?_) | refine zN2 (fun hlen => ?_) | refine zAl (fun _ => ?_))
      refine zEl (hbt) (Y.ts_len _) ?_
      repeat (first | refine gG ?_ | refine zN1 (fun hlen => ?_) | refine zN2 (fun hlen => ?_) | refine zAl (fun _ => ?_))
      refine zCallGb [0, 1, 2] hfa ?_
      rintro _ _ ⟨rfl, rfl⟩
      refine ⟨.c _, _, re_refl, rfl, rfl, ?_⟩
      clear hfa
      repeat (first | refine gG ?_ | refine zN1 (fun hlen => ?_) | refine zN2 (fun hlen => ?_) | refine zAl (fun _ => ?_))
      exact ⟨(k + 1, m3), ⟨hk', hR⟩, by simp only; omega, x_wkd 3 ⟨rfl, trivial⟩ rfl (by repeat (first | exact ag_refl | refine ag_upd rfl ?_ | refine ag_at rfl rfl ?_))⟩
  · have hk' : k = l.length := by
      have : ¬ k < l.length := by simpa using h
      omega
    subst hk'
    clear h hf
    rw [List.drop_length, matchL] at hR
    repeat (first | refine gG ?_ | refine zN1 (fun hlen => ?_) | refine zN2 (fun hlen => ?_) | refine zAl (fun _ => ?_))
    refine zG ?_
    rw [← hR]
    exact ⟨rfl, rfl⟩
set_option maxRecDepth 100000 in
set_option maxHeartbeats 2000000 in
theorem match_ag (ps : List ByteArray) (bm c1 c2 : Nat) (M1 : List (ByteArray × T)) (hM : SeenOk M1 ps) (a : Y) : ∀ (b : Y) (m : Bnd), AG Tryd.prog 133 [.ptr 2 bm 0, .c a.t, .c b.t] (BL bm c1 c2 M1 m) (MatchR bm c1 c2 M1 (matchY ps a b m)) := by
  induction a using Y.ind with
  | h k t l ih =>
    intro b m
    have hlk := hM t
    have heq := eqMatch_ag ps bm c1 c2 M1 l b.as (fun a ha b m => ih a ha b m) m
    have hg := mget_mT t m
    have hst := fun x : Y => sameType_af x b
    have hput := mput_mT (s := t) (y := b) (m := m)
    rw [matchY]
    clear ih hM
    obtain ⟨kb, tb, lb⟩ := b
    unfold BL MatchR at *
    have hh : headB k t l (.mk kb tb lb) = (decide (k = kb) && (decide (t = tb) && decide (((l.length : Nat) : Int) = ((lb.length : Nat) : Int)))) := rfl
    rw [hh]
    clear hh
    dsimp only [Y.as] at *
    cases d5 : decide (k = 5)
    · have hp : parB ps k t = false := by unfold parB; rw [d5]; rfl
      rw [hp]
      simp only [cond_false]
      clear hlk hp hg hst hput
      cases d1 : decide (k = kb)
      · simp only [Bool.false_and, cond_false]
        clear heq
        refine ag_enter 3 tok Tryd.func133 Tryd.ntmps133 Tryd.results133 rfl (by kernel_rfl) rfl fun F => ?_
        repeat (first | refine gG ?_ | refine zAl (fun _ => ?_) | refine zBf ?_)
        refine ac_draw [1, 1, 1, 1, 1, 1, 1, 1, 1, 1, 1, 1] [0, 1, 2, 3, 4, 5, 6, 7, 8, 9, 10, 11] (by kernel_rfl) (by kernel_rfl) ?_
        refine gW ?_
        refine w_nil ?_
        repeat (first | refine gG ?_ | refine zAl (fun _ => ?_) | refine zBx (fun _ => ?_))
        refine zG ?_
        exact ⟨rfl, rfl⟩
      cases d2 : decide (t = tb)
      · simp only [Bool.true_and, Bool.false_and, cond_false]
        clear heq
        refine ag_enter 3 tok Tryd.func133 Tryd.ntmps133 Tryd.results133 rfl (by kernel_rfl) rfl fun F => ?_
        repeat (first | refine gG ?_ | refine zAl (fun _ => ?_) | refine zBf ?_)
        refine ac_draw [1, 1, 1, 1, 1, 1, 1, 1, 1, 1, 1, 1] [0, 1, 2, 3, 4, 5, 6, 7, 8, 9, 10, 11] (by kernel_rfl) (by kernel_rfl) ?_
        refine gW ?_
        refine w_nil ?_
        repeat (first | refine gG ?_ | refine zAl (fun _ => ?_) | refine zBx (fun _ => ?_))
        refine zG ?_
        exact ⟨rfl, rfl⟩
      simp only [Bool.true_and]
      have hE : matchE ps l lb m = bif decide (((l.length : Nat) : Int) = ((lb.length : Nat) : Int)) then matchL ps l lb m else (false, m) := rfl
      rw [← hE]
      clear hE
      generalize matchE ps l lb m = q at *
      refine ag_enter 3 tok Tryd.func133 Tryd.ntmps133 Tryd.results133 rfl (by kernel_rfl) rfl fun F => ?_
      repeat (first | refine gG ?_ | refine zAl (fun _ => ?_) | refine zBf ?_)
      refine ac_draw [1, 1, 1, 1, 1, 1, 1, 1, 1, 1, 1, 1] [0, 1, 2, 3, 4, 5, 6, 7, 8, 9, 10, 11] (by kernel_rfl) (by kernel_rfl) ?_
      refine gW ?_
      refine w_nil ?_
      repeat (first | refine gG ?_ | refine zAl (fun _ => ?_) | refine zBx (fun _ => ?_))
      refine zMf ?_
      repeat (first | refine gG ?_ | refine zAl (fun _ => ?_) | refine zBx (fun _ => ?_))
      refine zCallG [0, 1, 2] heq ?_
      rintro _ _ ⟨rfl, rfl⟩
      refine ⟨.c _, _, re_refl, rfl, rfl, ?_⟩
      clear heq
      repeat (first | refine gG ?_ | refine zAl (fun _ => ?_) | refine zBx (fun _ => ?_))
      refine zG ?_
      exact ⟨rfl, rfl⟩
    · cases hs : hasS ps t
      · have hp : parB ps k t = false := by unfold parB; rw [d5, hs]; rfl
        rw [hp]
        rw [hs] at hlk
        simp only [cond_false]
        clear hp hg hst hput hs
        cases d1 : decide (k = kb)
        · simp only [Bool.false_and, cond_false]
          clear heq
          refine ag_enter 3 tok Tryd.func133 Tryd.ntmps133 Tryd.results133 rfl (by kernel_rfl) rfl fun F => ?_
          repeat (first | refine gG ?_ | refine zAl (fun _ => ?_) | refine zBf ?_)
          refine ac_draw [1, 1, 1, 1, 1, 1, 1, 1, 1, 1, 1, 1] [0, 1, 2, 3, 4, 5, 6, 7, 8, 9, 10, 11] (by kernel_rfl) (by kernel_rfl) ?_
          refine gW ?_
          try (first | (apply w_un; (focus exact rfl); (focus exact rfl); (focus exact rfl); (focus exact rfl)) | (apply w_no; (focus exact rfl); (focus exact rfl); (focus exact rfl); (focus exact rfl); focus (first | rfl | assumption | exact neg_t (by assumption) | exact neg_f (by assumption))) | (apply w_qg; (focus exact rfl); (focus exact rfl); (focus exact rfl); (focus exact rfl); (focus (first | rfl | assumption | exact neg_t (by assumption) | exact neg_f (by assumption))); (focus (intro _; (refine zLks 9 4 hlk ?_); exact det_refl))))
          try refine gW ?_
          refine w_nil ?_
          repeat (first | refine gG ?_ | refine zAl (fun _ => ?_) | refine zBx (fun _ => ?_))
          refine zG ?_
          exact ⟨rfl, rfl⟩
        cases d2 : decide (t = tb)
        · simp only [Bool.true_and, Bool.false_and, cond_false]
          clear heq
          refine ag_enter 3 tok Tryd.func133 Tryd.ntmps133 Tryd.results133 rfl (by kernel_rfl) rfl fun F => ?_
          repeat (first | refine gG ?_ | refine zAl (fun _ => ?_) | refine zBf ?_)
          refine ac_draw [1, 1, 1, 1, 1, 1, 1, 1, 1, 1, 1, 1] [0, 1, 2, 3, 4, 5, 6, 7, 8, 9, 10, 11] (by kernel_rfl) (by kernel_rfl) ?_
          refine gW ?_
          try (first | (apply w_un; (focus exact rfl); (focus exact rfl); (focus exact rfl); (focus exact rfl)) | (apply w_no; (focus exact rfl); (focus exact rfl); (focus exact rfl); (focus exact rfl); focus (first | rfl | assumption | exact neg_t (by assumption) | exact neg_f (by assumption))) | (apply w_qg; (focus exact rfl); (focus exact rfl); (focus exact rfl); (focus exact rfl); (focus (first | rfl | assumption | exact neg_t (by assumption) | exact neg_f (by assumption))); (focus (intro _; (refine zLks 9 4 hlk ?_); exact det_refl))))
          try refine gW ?_
          refine w_nil ?_
          repeat (first | refine gG ?_ | refine zAl (fun _ => ?_) | refine zBx (fun _ => ?_))
          refine zG ?_
          exact ⟨rfl, rfl⟩
        simp only [Bool.true_and]
        have hE : matchE ps l lb m = bif decide (((l.length : Nat) : Int) = ((lb.length : Nat) : Int)) then matchL ps l lb m else (false, m) := rfl
        rw [← hE]
        clear hE
        generalize matchE ps l lb m = q at *
        refine ag_enter 3 tok Tryd.func133 Tryd.ntmps133 Tryd.results133 rfl (by kernel_rfl) rfl fun F => ?_
        repeat (first | refine gG ?_ | refine zAl (fun _ => ?_) | refine zBf ?_)
        refine ac_draw [1, 1, 1, 1, 1, 1, 1, 1, 1, 1, 1, 1] [0, 1, 2, 3, 4, 5, 6, 7, 8, 9, 10, 11] (by kernel_rfl) (by kernel_rfl) ?_
        refine gW ?_
        try (first | (apply w_un; (focus exact rfl); (focus exact rfl); (focus exact rfl); (focus exact rfl)) | (apply w_no; (focus exact rfl); (focus exact rfl); (focus exact rfl); (focus exact rfl); focus (first | rfl | assumption | exact neg_t (by assumption) | exact neg_f (by assumption))) | (apply w_qg; (focus exact rfl); (focus exact rfl); (focus exact rfl); (focus exact rfl); (focus (first | rfl | assumption | exact neg_t (by assumption) | exact neg_f (by assumption))); (focus (intro _; (refine zLks 9 4 hlk ?_); exact det_refl))))
        try refine gW ?_
        refine w_nil ?_
        repeat (first | refine gG ?_ | refine zAl (fun _ => ?_) | refine zBx (fun _ => ?_))
        refine zMf ?_
        repeat (first | refine gG ?_ | refine zAl (fun _ => ?_) | refine zBx (fun _ => ?_))
        refine zCallG [0, 1, 2] heq ?_
        rintro _ _ ⟨rfl, rfl⟩
        refine ⟨.c _, _, re_refl, rfl, rfl, ?_⟩
        clear heq
        repeat (first | refine gG ?_ | refine zAl (fun _ => ?_) | refine zBx (fun _ => ?_))
        refine zG ?_
        exact ⟨rfl, rfl⟩
      · have hp : parB ps k t = true := by unfold parB; rw [d5, hs]; rfl
        rw [hp]
        rw [hs] at hlk
        simp only [cond]
        clear hp heq hs
        cases hy : yget t m with
        | none =>
          have hp2 := hput hy
          rw [hy] at hg
          dsimp only
          clear hput hst hy
          refine ag_enter 3 tok Tryd.func133 Tryd.ntmps133 Tryd.results133 rfl (by kernel_rfl) rfl fun F => ?_
          repeat (first | refine gG ?_ | refine zAl (fun _ => ?_) | refine zBf ?_)
          refine ac_draw [1, 1, 1, 1, 1, 1, 1, 1, 1, 1, 1, 1] [0, 1, 2, 3, 4, 5, 6, 7, 8, 9, 10, 11] (by kernel_rfl) (by kernel_rfl) ?_
          refine gW ?_
          try (first | (apply w_un; (focus exact rfl); (focus exact rfl); (focus exact rfl); (focus exact rfl)) | (apply w_no; (focus exact rfl); (focus exact rfl); (focus exact rfl); (focus exact rfl); focus (first | rfl | assumption | exact neg_t (by assumption) | exact neg_f (by assumption))) | (apply w_qg; (focus exact rfl); (focus exact rfl); (focus exact rfl); (focus exact rfl); (focus (first | rfl | assumption | exact neg_t (by assumption) | exact neg_f (by assumption))); (focus (intro _; (refine zLks 9 4 hlk ?_); exact det_refl))))
          try refine gW ?_
          refine w_nil ?_
          clear hlk
          repeat (first | refine gG ?_ | refine zAl (fun _ => ?_) | refine zBx (fun _ => ?_))
          refine ac_draw [1, 1, 1, 1, 1, 1, 1, 1, 1, 0, 3, 2, 0] [0, 1, 2, 3, 4, 5, 6, 7, 8, 9, 10, 11, 12] (by kernel_rfl) (by kernel_rfl) ?_
          refine gW ?_
          apply w_q; (focus exact rfl); (focus exact rfl); focus (intro _; (refine zLksa 9 64 (t := .agg [.lit (.int .i64 0), .lit (.string ⟨#[]⟩), .lit (.slice none 0 0)]) (c := false) (by rw [hg]; rfl) (by rw [hg]; rfl) ?_); exact det_refl)
          refine gW ?_
          apply w_a; (focus exact rfl); (focus exact rfl); refine v_alloc tok rfl rfl rfl (fun _ => rfl) (fun _ => ⟨⟨_, rfl⟩, ?_⟩)
          apply w_l; (focus exact rfl); (focus exact rfl); (first | (refine zkL ?_; first | refine zL1 ?_ | refine zL2 ?_ | refine zL3 ?_ | refine zLp ?_) | refine zM ?_ | (refine zkF ?_; first | refine zF1 ?_ | refine zF2 ?_ | refine zF3 ?_) | refine zA ?_ | (refine zkB ?_; first | refine zC5 ?_ | refine zC6 ?_ | refine zC1 ?_ | refine zC2 ?_ | refine zC3 ?_ | refine zC4 ?_ | refine zS5 ?_ | refine zS6 ?_ | refine zS1 ?_ | refine zS2 ?_ | refine zS3 ?_ | refine zS4 ?_ | refine zInc ?_ | refine zQ1 ?_ | refine zQ2 ?_ | refine zQ3 ?_ | refine zQ4 ?_ | refine zQ5 ?_ | refine zQ6 ?_) | (refine zkI ?_; first | refine zN1 (fun hlen => ?_) | refine zN2 (fun hlen => ?_) | refine zN3 ?_ | refine zN4 ?_ | refine zAp (fun _ => ?_)) | refine zS ?_ | refine zAl (fun _ => ?_) | refine zBx (fun _ => ?_) | refine zPt ?_ | refine zPf ?_ | refine zE ?_ | refine zEA ?_ | refine zNot ?_ | refine zBd ?_ | refine zBs ?_ | refine zFn ?_ | refine zK1 ?_ | refine zK2 ?_)
          refine gW ?_
          refine w_nil ?_
          clear hg
          repeat (first | refine gG ?_ | refine zAl (fun _ => ?_) | refine zBx (fun _ => ?_))
          refine ac_draw [1, 1, 1, 1, 1, 1, 1, 2] [0, 1, 2, 3, 4, 5, 6, 7] (by kernel_rfl) (by kernel_rfl) ?_
          refine gW ?_
          apply w_l; (focus exact rfl); (focus exact rfl); (refine zUps 9 64 ?_)
          refine w_nil ?_
          repeat (first | refine gG ?_ | refine zAl (fun _ => ?_) | refine zBx (fun _ => ?_))
          refine zG ?_
          refine ⟨rfl, ?_⟩
          unfold BL
          rw [← hp2]
          rfl
        | some x =>
          have hs1 := hst x
          rw [hy] at hg
          dsimp only
          clear hput hst hy
          generalize x.same (Y.mk kb tb lb) = q at *
          obtain ⟨kx, tx, lx⟩ := x
          refine ag_enter 3 tok Tryd.func133 Tryd.ntmps133 Tryd.results133 rfl (by kernel_rfl) rfl fun F => ?_
          repeat (first | refine gG ?_ | refine zAl (fun _ => ?_) | refine zBf ?_)
          refine ac_draw [1, 1, 1, 1, 1, 1, 1, 1, 1, 1, 1, 1] [0, 1, 2, 3, 4, 5, 6, 7, 8, 9, 10, 11] (by kernel_rfl) (by kernel_rfl) ?_
          refine gW ?_
          try (first | (apply w_un; (focus exact rfl); (focus exact rfl); (focus exact rfl); (focus exact rfl)) | (apply w_no; (focus exact rfl); (focus exact rfl); (focus exact rfl); (focus exact rfl); focus (first | rfl | assumption | exact neg_t (by assumption) | exact neg_f (by assumption))) | (apply w_qg; (focus exact rfl); (focus exact rfl); (focus exact rfl); (focus exact rfl); (focus (first | rfl | assumption | exact neg_t (by assumption) | exact neg_f (by assumption))); (focus (intro _; (refine zLks 9 4 hlk ?_); exact det_refl))))
          try refine gW ?_
          refine w_nil ?_
          clear hlk
          repeat (first | refine gG ?_ | refine zAl (fun _ => ?_) | refine zBx (fun _ => ?_))
          refine ac_draw [1, 1, 1, 1, 1, 1, 1, 1, 1, 0, 3, 2, 0] [0, 1, 2, 3, 4, 5, 6, 7, 8, 9, 10, 11, 12] (by kernel_rfl) (by kernel_rfl) ?_
          refine gW ?_
          apply w_q; (focus exact rfl); (focus exact rfl); focus (intro _; (refine zLksa 9 64 (t := .agg [.lit (.int .i64 kx), .lit (.string tx), Y.row lx]) (c := true) (by rw [hg]; rfl) (by rw [hg]; rfl) ?_); exact det_refl)
          refine gW ?_
          apply w_a; (focus exact rfl); (focus exact rfl); refine v_alloc tok rfl rfl rfl (fun _ => rfl) (fun _ => ⟨⟨_, rfl⟩, ?_⟩)
          apply w_l; (focus exact rfl); (focus exact rfl); (first | (refine zkL ?_; first | refine zL1 ?_ | refine zL2 ?_ | refine zL3 ?_ | refine zLp ?_) | refine zM ?_ | (refine zkF ?_; first | refine zF1 ?_ | refine zF2 ?_ | refine zF3 ?_) | refine zA ?_ | (refine zkB ?_; first | refine zC5 ?_ | refine zC6 ?_ | refine zC1 ?_ | refine zC2 ?_ | refine zC3 ?_ | refine zC4 ?_ | refine zS5 ?_ | refine zS6 ?_ | refine zS1 ?_ | refine zS2 ?_ | refine zS3 ?_ | refine zS4 ?_ | refine zInc ?_ | refine zQ1 ?_ | refine zQ2 ?_ | refine zQ3 ?_ | refine zQ4 ?_ | refine zQ5 ?_ | refine zQ6 ?_) | (refine zkI ?_; first | refine zN1 (fun hlen => ?_) | refine zN2 (fun hlen => ?_) | refine zN3 ?_ | refine zN4 ?_ | refine zAp (fun _ => ?_)) | refine zS ?_ | refine zAl (fun _ => ?_) | refine zBx (fun _ => ?_) | refine zPt ?_ | refine zPf ?_ | refine zE ?_ | refine zEA ?_ | refine zNot ?_ | refine zBd ?_ | refine zBs ?_ | refine zFn ?_ | refine zK1 ?_ | refine zK2 ?_)
          refine gW ?_
          refine w_nil ?_
          clear hg
          repeat (first | refine gG ?_ | refine zAl (fun _ => ?_) | refine zBx (fun _ => ?_))
          refine zCall (hs1) ?_
          rintro _ rfl
          repeat (first | refine gG ?_ | refine zAl (fun _ => ?_) | refine zBx (fun _ => ?_))
          refine zG ?_
          exact ⟨rfl, rfl⟩
end Go.Proofs.YtllgibfmddihgaaDoor
namespace Go.Proofs.YtllgibfmddihgaaDoor
open Go.RowKit
set_option maxRecDepth 100000 in
set_option maxHeartbeats 1000000 in
theorem more_af (s : Sc) (y : Y) (hs : s.mass ≤ 1048576) : AF Tryd.prog 48 [s.t, y.t] (· = .lit (.bool (matchY s.params s.ty y []).1)) := by
  have hpl : s.params.length ≤ 1048576 := by have := strSize_len s.params; unfold Sc.mass at hs; omega
  have hm := fun M1 (hM : SeenOk M1 s.params) c1 c2 bm => match_ag s.params bm c1 c2 M1 hM s.ty y []
  unfold BL MatchR at hm
  clear hs
  obtain ⟨ps, a⟩ := s
  dsimp only at *
  generalize matchY ps a y [] = q at *
  obtain ⟨k, t, l⟩ := a
  obtain ⟨kb, tb, lb⟩ := y
  refine af_enter tok Tryd.func48 Tryd.ntmps48 Tryd.results48 rfl (by kernel_rfl) rfl rfl fun F hX => ?_
  repeat (first | refine ac_seq ?_ | refine ac_block ?_ | refine ac_region ?_)
  repeat (first | refine gO ?_ | refine zN1 (fun hlen => ?_) | refine zN2 (fun hlen => ?_) | refine zAl (fun _ => ?_) | refine zBf ?_)
  repeat (first | refine ac_seq ?_ | refine ac_block ?_ | refine ac_region ?_)
  refine zOp ?_
  refine zMm (fun c1 => ?_)
  refine zOp ?_
  refine zMm (fun c2 => ?_)
  repeat (first | refine gG ?_ | refine zN1 (fun hlen => ?_) | refine zN2 (fun hlen => ?_) | refine zAl (fun _ => ?_) | refine zBx (fun _ => ?_))
  rename_i bm
  refine x_loop [7, 14, 15, 16, 17, 18, 19, 20, 21] (fun z : Nat × List (ByteArray × T) => [(14, .c (.lit (.int .i64 (z.1 : Nat))))]) (fun z => [.mp c1 (mkeys Value.string z.2), .mp c2 (mkeys Value.string (mT [])), .box bm 197 [.own 0 (.map (some c1)), .own 1 (.map (some c2))]]) (fun z => z.1 ≤ ps.length ∧ SeenOk z.2 (ps.take z.1)) (fun z => ps.length - z.1) (0, []) ⟨Nat.zero_le _, fun _ => rfl⟩ ⟨rfl, trivial⟩ rfl ?_
  rintro ⟨i, m2⟩ ⟨hi, hs2⟩
  dsimp only at hi hs2 ⊢
  repeat (first | refine gG ?_ | refine zN1 (fun hlen => ?_) | refine zN2 (fun hlen => ?_) | refine zAl (fun _ => ?_) | refine zBx (fun _ => ?_))
  refine x_cond rfl (fun h => ?_) (fun h => ?_)
  · have hi' : i < ps.length := by simpa using h
    obtain ⟨s, hsi⟩ := nth hi'
    have hat2 := str_at hsi
    rw [← Nat.mul_one i] at hat2
    have hs3 := hs2.put s
    have htk : ps.take i ++ [s] = ps.take (i + 1) := by rw [List.take_add_one, hsi]; simp
    rw [htk] at hs3
    clear h hsi htk hs2 hm
    repeat (first | refine gG ?_ | refine zN1 (fun hlen => ?_) | refine zN2 (fun hlen => ?_) | refine zAl (fun _ => ?_) | refine zBx (fun _ => ?_))
    refine zIx i hi' ?_
    repeat (first | refine gG ?_ | refine zN1 (fun hlen => ?_) | refine zN2 (fun hlen => ?_) | refine zAl (fun _ => ?_) | refine zBx (fun _ => ?_))
    refine zEl1 hat2 ?_
    repeat (first | refine gG ?_ | refine zN1 (fun hlen => ?_) | refine zN2 (fun hlen => ?_) | refine zAl (fun _ => ?_) | refine zBx (fun _ => ?_))
    refine zUps 9 4 ?_
    repeat (first | refine gG ?_ | refine zN1 (fun hlen => ?_) | refine zN2 (fun hlen => ?_) | refine zAl (fun _ => ?_) | refine zBx (fun _ => ?_))
    exact ⟨(i + 1, _), ⟨hi', hs3⟩, by simp only; omega, x_wkd 3 ⟨rfl, trivial⟩ rfl (by repeat (first | exact ag_refl | refine ag_upd rfl ?_ | refine ag_at rfl rfl ?_))⟩
  · have hi' : i = ps.length := by
      have : ¬ i < ps.length := by simpa using h
      omega
    subst hi'
    clear h
    rw [List.take_length] at hs2
    have hm1 := hm m2 hs2 c1 c2 bm
    clear hm hs2
    repeat (first | refine gG ?_ | refine zN1 (fun hlen => ?_) | refine zN2 (fun hlen => ?_) | refine zAl (fun _ => ?_) | refine zBx (fun _ => ?_))
    refine zCallG [0, 1, 2] hm1 ?_
    rintro _ _ ⟨rfl, rfl⟩
    refine ⟨.c _, _, re_refl, rfl, rfl, ?_⟩
    clear hm1
    repeat (first | refine gG ?_ | refine zN1 (fun hlen => ?_) | refine zN2 (fun hlen => ?_) | refine zAl (fun _ => ?_) | refine zBx (fun _ => ?_))
    first | refine zR ?_ | refine zQ ?_
    rfl
end Go.Proofs.YtllgibfmddihgaaDoor
namespace Go.Proofs.YtllgibfmddihgaaDoor
open Go.RowKit
theorem TabOk.array {P : Program} {L : Tab} (hL : TabOk P L) {t e : TypeId} {n : Nat} {i : TI} (h : L.look t = some i) (hd : i.d = .array n e) : P.underlying t = some (.array n e) := by
  obtain ⟨d, h1, h2⟩ := hL.desc h
  rw [hd] at h2
  cases d <;> simp [descB] at h2
  rw [h1, h2.1, h2.2]
section
variable {P : Program} {F : Frm} {L : Tab} {d : Option Tmp} {ty : TypeId} {pos : String} {aft : Array Edge} {g : Option (Nat × Bool)} {ρ : Operand → AV} {hp : List Blk} {K : AV → List Blk → Prop}
theorem lo_build_arr (hL : TabOk P L) {t el : TypeId} {ti te : TI} {n : Nat} {parts : List (Nat × Operand)} {cs : List AV} (ht : L.look t = some ti) (hd : ti.d = .array n el) (hte : L.look el = some te) (hf : fillA (fun i => some (i * te.size, te.size)) (ti.zero.map fun v => .c (.lit v)) (parts.map fun p => (p.1, ρ p.2)) = some cs) (h : K (.agg cs) hp) : LO P F ⟨d, .build t parts.toArray, ty, pos, aft, g⟩ ρ hp K := by
  refine LO.same (fun M e w he hh => ?_) h
  obtain ⟨z, hz, hzc, _, hone⟩ := hL.zero ht
  obtain ⟨ys, g1, g2, _, _⟩ := fill_sound (pl' := fun i => some (i * te.size, te.size)) (fun i p hp => hp) (fun p hp => he p.2 (by simp only [Op.operands]; exact List.mem_map.2 ⟨p, by simpa using hp, rfl⟩)) (RAs.lits (M := M) ti.zero) hone hf
  refine ⟨.agg ys.toArray, ?_, by simp only [RA]; exact ⟨ys, rfl, g2⟩⟩
  have hz' : z.cells = ti.zero.toArray := by rw [← hzc]
  simp only [execOp, Instr.build, Sem.run_bind, hz, run_underlying (hL.array ht hd), Result.andThen_ok, hL.sizeOf hte, hz']
  simp only [List.map_toArray]
  rw [show (fun x : Nat × Operand => match x with | (i, x) => (i, e x)) = (fun p : Nat × Operand => (p.1, e p.2)) from rfl]
  rw [g1]
  rfl
theorem zBda {t el : TypeId} {ti te : TI} {n : Nat} {parts : List (Nat × Operand)} {cs cs' : List AV} (h : K (.agg cs') hp) (hL : TabOk P L := by exact tok) (ht : L.look t = some ti := by exact rfl) (hd : ti.d = .array n el := by exact rfl) (hte : L.look el = some te := by exact rfl) (hf : fillA (fun i => some (i * te.size, te.size)) (ti.zero.map fun v => .c (.lit v)) (parts.map fun p => (p.1, ρ p.2)) = some cs := by exact rfl) (he : evl cs = some cs' := by exact rfl) : LO P F ⟨d, .build t parts.toArray, ty, pos, aft, g⟩ ρ hp K :=
  lo_build_arr hL ht hd hte hf (by rw [← evl_eq he]; exact h)
theorem lo_idx_arr (hL : TabOk P L) {t el : TypeId} {ti te : TI} {x y : Operand} {i off n : Nat} {v : Value} {k : IntKind} {z : Int} (j : Nat) (hx : ρ x = .eptr i v off) (hy : ρ y = .c (.lit (.int k z))) (hz : z = (j : Int)) (hj : j < n) (ht : L.look t = some ti) (hd : ti.d = .array n el) (hte : L.look el = some te) (h : K (.eptr i v (off + j * te.size)) hp) : LO P F ⟨d, .indexAddr t x y, ty, pos, aft, g⟩ ρ hp K := by
  refine LO.same (fun M e w he hh => ?_) h
  have h1 := he x (by first | (simp [Op.operands]; done) | simp [Op.operands, Call.operands])
  rw [hx] at h1
  simp only [RA] at h1
  obtain ⟨ad, m, c, hv, hu⟩ := h1
  have h2 := he y (by first | (simp [Op.operands]; done) | simp [Op.operands, Call.operands])
  rw [hy] at h2
  simp only [RA, RT] at h2
  refine ⟨.pointer (some (ad.add (off + j * te.size))), ?_, by simp only [RA]; exact ⟨ad, m, c, hv, rfl⟩⟩
  subst hz
  simp [execOp, Instr.indexAt, hu, h2, asIntOf, run_underlying (hL.array ht hd), hL.sizeOf hte, hj, Instr.sureAddr, add_add']
theorem zIxa {t el : TypeId} {ti te : TI} {x y : Operand} {i off n : Nat} {v : Value} {k : IntKind} {z : Int} (j : Nat) (hj : j < n) (h : K (.eptr i v (off + j * te.size)) hp) (hz : z = (j : Int) := by exact rfl) (hL : TabOk P L := by exact tok) (hx : ρ x = .eptr i v off := by exact rfl) (hy : ρ y = .c (.lit (.int k z)) := by exact rfl) (ht : L.look t = some ti := by exact rfl) (hd : ti.d = .array n el := by exact rfl) (hte : L.look el = some te := by exact rfl) : LO P F ⟨d, .indexAddr t x y, ty, pos, aft, g⟩ ρ hp K :=
  lo_idx_arr hL j hx hy hz hj ht hd hte h
end
end Go.Proofs.YtllgibfmddihgaaDoor
namespace Go.Proofs.YtllgibfmddihgaaDoor
open Go.RowKit
/-- pairs of types, asq the reference's row holds them -/
def Pq.ts (q : Y × Y) : List T := q.1.ts ++ q.2.ts
theorem Pq.ts_len (q : Y × Y) : (Pq.ts q).length = 6 := by simp [Pq.ts, Y.ts_len]
def qall (l : List (Y × Y)) : List T := l.flatMap Pq.ts
theorem qall_app (a b : List (Y × Y)) : qall (a ++ b) = qall a ++ qall b := by simp [qall]
def qm (q : Y × Y) : Nat := q.1.mass
theorem zip_mass : ∀ (l l' : List Y), ((l.zip l').map qm).sum ≤ (l.map Y.mass).sum
  | [], _ => by simp
  | _ :: _, [] => by simp
  | a :: l, b :: l' => by
    have := zip_mass l l'
    simp only [List.zip_cons_cons, List.map_cons, List.sum_cons, qm] at this ⊢
    omega
theorem zip_at {l l' : List Y} {k : Nat} {a b : Y} (ha : l[k]? = some a) (hb : l'[k]? = some b) : (l.zip l')[k]? = some (a, b) := by
  rw [List.getElem?_zip_eq_some]
  exact ⟨ha, hb⟩
end Go.Proofs.YtllgibfmddihgaaDoor
namespace Go.Proofs.YtllgibfmddihgaaDoor
open Go.RowKit
mutual
def Y.slim : Y → Prop
  | .mk k n l => inI k ∧ n.size ≤ 1048576 ∧ l.length ≤ 1048576 ∧ Y.slims l
def Y.slims : List Y → Prop
  | [] => True
  | v :: r => v.slim ∧ Y.slims r
end
theorem Y.slims_iff : ∀ l : List Y, Y.slims l ↔ ∀ v ∈ l, v.slim
  | [] => by simp [Y.slims]
  | v :: l => by simp [Y.slims, Y.slims_iff l]
theorem Y.slim_of (v : Y) : v.mass ≤ 1048576 → v.slim := by
  induction v using Y.ind with
  | h k n l ih =>
    intro h
    rw [Y.mass, Y.masses_sum] at h
    rw [Y.slim, Y.slims_iff]
    have h1 := len_sum' Y.mass Y.mass_pos l
    exact ⟨far_in (by omega), by omega, by omega, fun v hv => ih v hv (by have := sum_mem' Y.mass hv; omega)⟩
theorem getD_mem {tl : List Y} {j : Nat} {d : Y} (h : j < tl.length) : tl.getD j d ∈ tl := by
  rw [List.getD_eq_getElem?_getD, List.getElem?_eq_getElem h]
  exact List.getElem_mem h
theorem slim_put (ns : List ByteArray) (tl : List Y) (htl : ∀ v ∈ tl, v.slim) (v : Y) : v.slim → (v.put ns tl).slim := by
  induction v using Y.ind with
  | h k n l ih =>
    intro h
    rw [Y.slim, Y.slims_iff] at h
    rw [Y.put]
    cases hh : hitB ns tl.length k n
    · simp only [cond]
      rw [Y.slim, Y.slims_iff, Y.puts_eq, List.length_map]
      refine ⟨h.1, h.2.1, h.2.2.1, fun x hx => ?_⟩
      obtain ⟨y, hy, rfl⟩ := List.mem_map.1 hx
      exact ih y hy (h.2.2.2 y hy)
    · obtain ⟨_, j, hj, hjl⟩ := hit_some hh
      simp only [cond]
      rw [hj]
      exact htl _ (getD_mem hjl)
theorem sum_mul_le {α : Type} (f g : α → Nat) (c : Nat) : ∀ l : List α, (∀ a ∈ l, f a ≤ c * g a) → (l.map f).sum ≤ c * (l.map g).sum
  | [], _ => by simp
  | a :: l, h => by
    have h1 := h a (by simp)
    have h2 := sum_mul_le f g c l fun x hx => h x (List.mem_cons_of_mem _ hx)
    simp only [List.map_cons, List.sum_cons, Nat.mul_add]
    omega
theorem flat_sum {α : Type} (f : α → List UInt8) : ∀ l : List α, (l.flatMap f).length = (l.map fun a => (f a).length).sum
  | [] => rfl
  | a :: l => by simp [flat_sum f l]
theorem put_mark_le (ns : List ByteArray) (tl : List Y) (M : Nat) (hM : 1 ≤ M) (hM2 : M ≤ 1048576) (htl : ∀ v ∈ tl, v.mass ≤ M) (v : Y) : v.mass ≤ 1048576 → (v.put ns tl).mark.length ≤ 21 * M * v.mass := by
  induction v using Y.ind with
  | h k n l ih =>
    intro h
    rw [Y.mass, Y.masses_sum] at h ⊢
    rw [Y.put]
    have hll := len_sum' Y.mass Y.mass_pos l
    cases hh : hitB ns tl.length k n
    · simp only [cond]
      have h2 := numB_nat (n := l.length) (by omega)
      have h3 := numB_far (n := k) (by omega)
      have h4 := textB_le (s := n) (by omega)
      have h5 := sum_mul_le (fun a => (a.put ns tl).mark.length) Y.mass (21 * M) l fun a ha => ih a ha (by have := sum_mem' Y.mass ha; omega)
      have h6 : ((l.map (Y.put ns tl)).flatMap Y.mark).length = (l.map fun a => (a.put ns tl).mark.length).sum := by rw [flat_sum, List.map_map]; rfl
      simp only [Y.mark, Y.marks_eq, Y.puts_eq, List.length_append, List.length_map, h6]
      have h7 : 21 * (far k + (n.size + 1) + 1) ≤ 21 * M * (far k + (n.size + 1) + 1) := Nat.mul_le_mul_right _ (by omega)
      have h8 : 21 * M * (far k + (n.size + 1) + ((l.map Y.mass).sum + 1)) = 21 * M * (far k + (n.size + 1) + 1) + 21 * M * (l.map Y.mass).sum := by rw [← Nat.mul_add]; congr 1; omega
      rw [h8]
      omega
    · obtain ⟨_, j, hj, hjl⟩ := hit_some hh
      simp only [cond]
      rw [hj]
      have h1 := htl _ (getD_mem (d := .mk 0 ⟨#[]⟩ []) hjl)
      have h2 := Y.mark_le _ (Nat.le_trans h1 hM2)
      have h3 : 1 ≤ far k + (n.size + 1) + ((l.map Y.mass).sum + 1) := by omega
      have h4 : 21 * M * 1 ≤ 21 * M * (far k + (n.size + 1) + ((l.map Y.mass).sum + 1)) := Nat.mul_le_mul_left _ h3
      simp only [Int.toNat_natCast]
      omega
set_option maxRecDepth 100000 in
set_option maxHeartbeats 4000000 in
theorem typeMarkL_af (y : Y) : y.slim → y.mark.length ≤ 70368744177664 → AF Tryd.prog 34 [y.t] (· = .lit (.string (bs y.mark))) := by
  induction y using Y.ind with
  | h k n l ih =>
    intro hok hb
    simp only [Y.slim, Y.slims_iff] at hok
    obtain ⟨hk0, hn0, hl0, hcs⟩ := hok
    have hm : (Y.mk k n l).mark = numsB [k, (l.length : Nat)] ++ textsB [n] ++ l.flatMap Y.mark := by simp [Y.mark, Y.marks_eq, numsB, textsB, List.append_assoc]
    rw [hm] at hb ⊢
    simp only [List.length_append] at hb
    have hll := len_flat_le Y.mark Y.mark_pos l
    have hN := nums_af [k, (l.length : Nat)] (List.forall_mem_cons.2 ⟨hk0, (List.forall_mem_cons.2 ⟨inI_nat (by omega), (fun _ h => by simp at h)⟩)⟩) (by have h1 := numB_le hk0; have h2 := numB_nat (n := l.length) (by omega); simp only [numsB, List.flatMap_cons, List.flatMap_nil, List.length_append, List.length_nil]; omega)
    have hT := texts_af [n] (by have h1 := textB_le (s := n) (by omega); simp only [textsB, List.flatMap_cons, List.flatMap_nil, List.length_append, List.length_nil]; omega)
    have hC : ∀ a ∈ l, AF Tryd.prog 34 [a.t] (· = .lit (.string (bs a.mark))) := fun a ha => ih a ha (hcs a ha) (by have := mem_flat_le Y.mark ha; omega)
    clear hm hk0 hn0 hl0 hcs ih hll
    generalize numsB [k, (l.length : Nat)] = p1 at *
    generalize textsB [n] = p2 at *
    refine af_enter tok Tryd.func34 Tryd.ntmps34 Tryd.results34 rfl (by kernel_rfl) rfl rfl fun F hX => ?_
    repeat (first | refine gG ?_ | refine zN1 (fun hlen => ?_) | refine zN2 (fun hlen => ?_) | refine zAl (fun _ => ?_) | refine zBf ?_)
    refine ac_draw [1, 1, 1, 1, 1, 1, 1, 1, 1, 1, 1, 1, 1] [0, 1, 2, 3, 4, 5, 6, 7, 8, 9, 10, 11, 12] (by kernel_rfl) (by kernel_rfl) ?_
    refine gW ?_
    apply w_q; (focus exact rfl); (focus exact rfl); focus (intro _; (refine lo_call hN rfl (by repeat (first | exact rzs_nil | apply rzs_cons | exact rz_c | exact rz_nil rfl | apply rz_agg | exact rz_own rfl | apply rz_fn | exact rz_ptr rfl | apply rz_tup)) ?_; rintro _ rfl); exact det_refl)
    refine gW ?_
    apply w_q; (focus exact rfl); (focus exact rfl); focus (intro _; (refine lo_call hT rfl (by repeat (first | exact rzs_nil | apply rzs_cons | exact rz_c | exact rz_nil rfl | apply rz_agg | exact rz_own rfl | apply rz_fn | exact rz_ptr rfl | apply rz_tup)) ?_; rintro _ rfl); exact det_refl)
    apply w_q; (focus exact rfl); (focus exact rfl); focus (intro _; (refine zCatb p1 p2 (by omega) ?_); exact det_refl)
    refine gW ?_
    refine w_nil ?_
    repeat (first | refine gG ?_ | refine zN1 (fun hlen => ?_) | refine zN2 (fun hlen => ?_) | refine zAl (fun _ => ?_) | refine zBf ?_)
    refine x_loop [3, 5, 21, 22, 23, 24, 25, 26, 27, 28, 29] (fun k : Nat => [(21, .c (.lit (.int .i64 (k : Nat)))), (3, .c (.lit (.string (bs (p1 ++ p2 ++ (l.take k).flatMap Y.mark)))))]) (fun _ => []) (fun k => k ≤ l.length) (fun k => l.length - k) 0 (Nat.zero_le _) ⟨rfl, congrArg (fun s => AV.c (.lit (.string s))) (bs_take0 Y.mark l (p1 ++ p2)).symm, trivial⟩ rfl ?_
    intro k hk
    repeat (first | refine gG ?_ | refine zN1 (fun hlen => ?_) | refine zN2 (fun hlen => ?_) | refine zAl (fun _ => ?_) | refine zBf ?_)
    refine x_cond rfl (fun h => ?_) (fun h => ?_)
    · have hk' : k < l.length := by simpa using h
      obtain ⟨a, ha⟩ := nth hk'
      have hc := hC a (List.mem_of_getElem? ha)
      have hsn := flat_snoc' Y.mark ha
      have h1 := take_flat_le Y.mark l k
      have h2 := mem_flat_le Y.mark (List.mem_of_getElem? ha)
      clear h
      repeat (first | refine gG ?_ | refine zN1 (fun hlen => ?_) | refine zN2 (fun hlen => ?_) | refine zAl (fun _ => ?_) | refine zBf ?_)
      refine zIx (k) (hk') ?_
      repeat (first | refine gG ?_ | refine zN1 (fun hlen => ?_) | refine zN2 (fun hlen => ?_) | refine zAl (fun _ => ?_) | refine zBx (fun _ => ?_))
      refine zEl (Y.at ha) (Y.ts_len a) ?_
      generalize Y.mark a = ma at *
      obtain ⟨ka, na, la⟩ := a
      repeat (first | refine gG ?_ | refine zN1 (fun hlen => ?_) | refine zN2 (fun hlen => ?_) | refine zAl (fun _ => ?_) | refine zBf ?_)
      refine zCall (hc) ?_
      rintro _ rfl
      repeat (first | refine gG ?_ | refine zN1 (fun hlen => ?_) | refine zN2 (fun hlen => ?_) | refine zAl (fun _ => ?_) | refine zBf ?_)
      refine zCatb (p1 ++ p2 ++ (l.take k).flatMap Y.mark) ma (by simp only [List.length_append]; omega) ?_
      repeat (first | refine gG ?_ | refine zN1 (fun hlen => ?_) | refine zN2 (fun hlen => ?_) | refine zAl (fun _ => ?_) | refine zBf ?_)
      exact ⟨k + 1, hk', by omega, x_wkd 0 ⟨rfl, by rw [hsn, ← List.append_assoc]; rfl, trivial⟩ rfl (by repeat (first | exact ag_refl | refine ag_upd rfl ?_ | refine ag_at rfl rfl ?_))⟩
    · have hk' : k = l.length := by
        have : ¬ k < l.length := by simpa using h
        omega
      subst hk'
      rw [List.take_length]
      clear h
      repeat (first | refine gG ?_ | refine zN1 (fun hlen => ?_) | refine zN2 (fun hlen => ?_) | refine zAl (fun _ => ?_) | refine zBf ?_)
      first | refine zR ?_ | refine zQ ?_
      rfl
end Go.Proofs.YtllgibfmddihgaaDoor
