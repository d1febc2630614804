/-
  Texts of this proof, part 10: Ysl.
-/
import Derived.Test.YthloejmmgdjimaaDoorQSessionSays9
import Derived.Lib.AppendStr
import Derived.Lib.AppendZerosOnto
import Derived.Lib.MinMax
import Derived.WideKeyEntry
namespace Go.Proofs.YthloejmmgdjimaaDoor
open Go.RowKit
/-- a round over the messages of one state -/
structure SIn (a b : List Se) (Q : List (Int × Int)) (i : Nat) (p : Int × Int) (j : Nat) : Prop where
  s : SInv a b Q i
  at_ : Q[i]? = some p
  pt : ∀ z ∈ (stAt a p.1).br.take j, 0 ≤ nxS (stAt b p.2).br z.1 → (z.2, nxS (stAt b p.2).br z.1) ∈ Q
def goB (a b : List Se) (p : Int × Int) : Bool := decide ((stAt a p.1).kind = (stAt b p.2).kind) && ((!decide ((stAt a p.1).kind = 1) || covB (stAt b p.2).br (stAt a p.1).br) && (!decide ((stAt a p.1).kind = 2) || covB (stAt a p.1).br (stAt b p.2).br))
theorem goB_t {a b : List Se} {p : Int × Int} : goB a b p = true ↔ (stAt a p.1).kind = (stAt b p.2).kind ∧ ((stAt a p.1).kind = 1 → ∀ z ∈ (stAt a p.1).br, 0 ≤ nxS (stAt b p.2).br z.1) ∧ ((stAt a p.1).kind = 2 → ∀ z ∈ (stAt b p.2).br, 0 ≤ nxS (stAt a p.1).br z.1) := by
  unfold goB
  rw [Bool.and_eq_true, Bool.and_eq_true, Bool.or_eq_true, Bool.or_eq_true, covB_t, covB_t, decide_eq_true_iff, Bool.not_eq_true', Bool.not_eq_true', decide_eq_false_iff_not, decide_eq_false_iff_not]
  constructor
  · rintro ⟨h1, h2, h3⟩
    exact ⟨h1, fun e => h2.resolve_left (fun h => h e), fun e => h3.resolve_left (fun h => h e)⟩
  · rintro ⟨h1, h2, h3⟩
    refine ⟨h1, ?_, ?_⟩
    · by_cases e : (stAt a p.1).kind = 1
      · exact .inr (h2 e)
      · exact .inl e
    · by_cases e : (stAt a p.1).kind = 2
      · exact .inr (h3 e)
      · exact .inl e
theorem sinv0 {a b : List Se} (ha : 1 ≤ a.length) (hb : 1 ≤ b.length) : SInv a b [(0, 0)] 0 :=
  ⟨by simp, fun p hp => by rw [List.mem_singleton] at hp; subst hp; dsimp only; omega, by simp, fun p hp R h0 _ => by rw [List.mem_singleton] at hp; subst hp; exact h0, fun k hk => by omega⟩
theorem go_bad {a b : List Se} {Q : List (Int × Int)} {i : Nat} {p : Int × Int} (h : SInv a b Q i) (hp : Q[i]? = some p) (hg : goB a b p = false) : subB a b = false :=
  sinv_bad h (List.mem_of_getElem? hp) fun R hR => by
    have := goB_t.2 ⟨hR.1, hR.2.1, hR.2.2.1⟩
    rw [hg] at this; cases this
theorem sin_end {a b : List Se} {Q : List (Int × Int)} {i : Nat} {p : Int × Int} (h : SIn a b Q i p (stAt a p.1).br.length) (hg : goB a b p = true) : SInv a b Q (i + 1) := by
  obtain ⟨h, hp, ht⟩ := h
  rw [List.take_length] at ht
  have g := goB_t.1 hg
  refine ⟨h.hd, h.rg, h.nd, h.need, fun k hk q hq => ?_⟩
  by_cases e : k < i
  · exact h.dn k e q hq
  · obtain rfl : k = i := by omega
    rw [hp] at hq
    obtain rfl : p = q := by injection hq
    exact ⟨g.1, g.2.1, g.2.2, ht⟩
theorem take_mem {α : Type} {l : List α} {j : Nat} {z w : α} (hz : l[j]? = some z) (hw : w ∈ l.take (j + 1)) : w ∈ l.take j ∨ w = z := by
  obtain ⟨h1, rfl⟩ := List.getElem?_eq_some_iff.1 hz
  rw [List.take_succ_eq_append_getElem h1] at hw
  rcases List.mem_append.1 hw with hw | hw
  · exact .inl hw
  · exact .inr (List.mem_singleton.1 hw)
theorem sin_skip {a b : List Se} {Q : List (Int × Int)} {i j : Nat} {p z : Int × Int} (h : SIn a b Q i p j) (hz : (stAt a p.1).br[j]? = some z) (hs : 0 ≤ nxS (stAt b p.2).br z.1 → (z.2, nxS (stAt b p.2).br z.1) ∈ Q) : SIn a b Q i p (j + 1) :=
  ⟨h.s, h.at_, fun w hw hn => by
    rcases take_mem hz hw with hw | rfl
    · exact h.pt w hw hn
    · exact hs hn⟩
theorem sin_add {a b : List Se} (ha : LOk a) (hb : LOk b) {Q : List (Int × Int)} {i j : Nat} {p z : Int × Int} (h : SIn a b Q i p j) (hz : (stAt a p.1).br[j]? = some z) (hn : 0 ≤ nxS (stAt b p.2).br z.1) (hnew : (z.2, nxS (stAt b p.2).br z.1) ∉ Q) : SIn a b (Q ++ [(z.2, nxS (stAt b p.2).br z.1)]) i p (j + 1) := by
  obtain ⟨h, hp, ht⟩ := h
  have hpm := List.mem_of_getElem? hp
  have hr := h.rg p hpm
  have hzm := List.mem_of_getElem? hz
  have sa := ha.at hr.1 hr.2.1
  have sb := hb.at hr.2.2.1 hr.2.2.2
  have hlt := (List.getElem?_eq_some_iff.1 hp).1
  refine ⟨⟨List.mem_append_left _ h.hd, fun q hq => ?_, List.nodup_append.2 ⟨h.nd, by simp, fun x hx y hy e => ?_⟩, fun q hq R h0 hG => ?_, fun k hk q hq => ?_⟩, by rw [List.getElem?_append_left hlt]; exact hp, fun w hw hn' => ?_⟩
  · rcases List.mem_append.1 hq with hq | hq
    · exact h.rg q hq
    · rw [List.mem_singleton] at hq
      subst hq
      have h1 := sa.rng z hzm
      have h2 := nx_lt (n := (b.length : Nat)) (by omega) (l := (stAt b p.2).br) (k := z.1) (fun z hz => ⟨(sb.rng z hz).2.2.1, (sb.rng z hz).2.2.2⟩)
      dsimp only
      omega
  · rw [List.mem_singleton] at hy
    subst hy
    subst e
    exact hnew hx
  · rcases List.mem_append.1 hq with hq | hq
    · exact h.need q hq R h0 hG
    · rw [List.mem_singleton] at hq
      subst hq
      exact (hG p (h.need p hpm R h0 hG)).2.2.2 z hzm hn
  · have hk' : k < Q.length := by omega
    rw [List.getElem?_append_left hk'] at hq
    exact (h.dn k hk q hq).mono fun q hq => List.mem_append_left _ hq
  · rcases take_mem hz hw with hw | rfl
    · exact List.mem_append_left _ (ht w hw hn')
    · simp
theorem pr_get0 {l : List (Int × Int)} {k : Nat} {p : Int × Int} (h : l[k]? = some p) : (l.flatMap prTs)[k * 2 + 0 * 1]? = some (iL p.1) := flat_get prTs 2 (fun _ => rfl) h (j := 0) (by omega)
theorem pr_get1 {l : List (Int × Int)} {k : Nat} {p : Int × Int} (h : l[k]? = some p) : (l.flatMap prTs)[k * 2 + 1 * 1]? = some (iL p.2) := flat_get prTs 2 (fun _ => rfl) h (j := 1) (by omega)
def subE (a b : List Se) : Int := if seErr a ≠ 0 then seErr a else seErr b
theorem two_at {a b : List Se} {k : Nat} (hk : k < 2) : [seRow a, seRow b][k * 1]? = some (seRow (if k = 0 then a else b)) := by
  have : k = 0 ∨ k = 1 := by omega
  rcases this with rfl | rfl <;> rfl
set_option maxRecDepth 100000 in
set_option maxHeartbeats 8000000 in
theorem sub_af (a b : List Se) : AF Tryd.prog 7 [seRow a, seRow b] (· = .tup [.lit (.bool (decide (subE a b = 0) && subB a b)), iL (subE a b)]) := by
  have hca := fun k : Nat => check_af (if k = 0 then a else b)
  refine af_enter tok Tryd.func7 Tryd.ntmps7 Tryd.results7 rfl (by kernel_rfl) rfl rfl fun F hX => ?_
  repeat (first | refine gG ?_ | refine zN1 (fun hlen => ?_) | refine zN2 (fun hlen => ?_) | refine zAl (fun _ => ?_) | refine zAp (fun _ => ?_))
  refine x_loop [4, 5, 7, 8, 20, 21, 22, 23, 24, 25, 26, 27, 28, 29] (fun k : Nat => [(20, .c (iL (k : Nat)))]) (fun _ => []) (fun k => k ≤ 2 ∧ (1 ≤ k → seErr a = 0) ∧ (2 ≤ k → seErr b = 0)) (fun k => 2 - k) 0 ⟨by omega, fun h => by omega, fun h => by omega⟩ ⟨rfl, trivial⟩ rfl ?_
  rintro k ⟨hk, ha, hb⟩
  repeat (first | refine gG ?_ | refine zN1 (fun hlen => ?_) | refine zN2 (fun hlen => ?_) | refine zAl (fun _ => ?_) | refine zAp (fun _ => ?_))
  refine x_cond rfl (fun h => ?_) (fun h => ?_)
  · have hk' : k < 2 := by have := of_decide_eq_true h; omega
    have hat := two_at (a := a) (b := b) hk'
    replace hca := hca k
    have he0 : seErr (if k = 0 then a else b) ≠ 0 → subE a b = seErr (if k = 0 then a else b) := fun hne => by
      have : k = 0 ∨ k = 1 := by omega
      rcases this with rfl | rfl
      · rw [if_pos rfl] at hne ⊢
        unfold subE; rw [if_pos hne]
      · rw [if_neg (by decide)] at hne ⊢
        unfold subE; rw [if_neg (fun h => h (ha (Nat.le_refl _)))]
    have he1 : seErr (if k = 0 then a else b) = 0 → (1 ≤ k + 1 → seErr a = 0) ∧ (2 ≤ k + 1 → seErr b = 0) := fun he => by
      have : k = 0 ∨ k = 1 := by omega
      rcases this with rfl | rfl
      · rw [if_pos rfl] at he
        exact ⟨fun _ => he, fun h => by omega⟩
      · rw [if_neg (by decide)] at he
        exact ⟨fun _ => ha (Nat.le_refl _), fun _ => he⟩
    clear h ha hb
    generalize (if k = 0 then a else b) = c at *
    by_cases hce : seErr c = 0
    · replace he1 := he1 hce
      rw [hce] at hca
      clear he0
      repeat (first | refine gG ?_ | refine zN1 (fun hlen => ?_) | refine zN2 (fun hlen => ?_) | refine zAl (fun _ => ?_) | refine zAp (fun _ => ?_))
      refine zIx k hk' ?_
      repeat (first | refine gG ?_ | refine zN1 (fun hlen => ?_) | refine zN2 (fun hlen => ?_) | refine zAl (fun _ => ?_) | refine zAp (fun _ => ?_))
      refine zEl1 hat ?_
      repeat (first | refine gG ?_ | refine zN1 (fun hlen => ?_) | refine zN2 (fun hlen => ?_) | refine zAl (fun _ => ?_) | refine zAp (fun _ => ?_))
      refine zCall (hca) ?_
      rintro _ rfl
      repeat (first | refine gG ?_ | refine zN1 (fun hlen => ?_) | refine zN2 (fun hlen => ?_) | refine zAl (fun _ => ?_) | refine zAp (fun _ => ?_))
      exact ⟨k + 1, ⟨by omega, he1⟩, by omega, x_wkd 0 ⟨rfl, trivial⟩ rfl (by repeat (first | exact ag_refl | refine ag_upd rfl ?_ | refine ag_at rfl rfl ?_))⟩
    · replace he0 := he0 hce
      rw [he0]
      clear he1 he0
      generalize seErr c = e at *
      have d1 : (!decide (e = 0)) = true := by rw [decide_eq_false hce]; rfl
      have d2 : decide (e = 0) = false := decide_eq_false hce
      rw [d2, Bool.false_and]
      repeat (first | refine gG ?_ | refine zN1 (fun hlen => ?_) | refine zN2 (fun hlen => ?_) | refine zAl (fun _ => ?_) | refine zAp (fun _ => ?_))
      refine zIx k hk' ?_
      repeat (first | refine gG ?_ | refine zN1 (fun hlen => ?_) | refine zN2 (fun hlen => ?_) | refine zAl (fun _ => ?_) | refine zAp (fun _ => ?_))
      refine zEl1 hat ?_
      repeat (first | refine gG ?_ | refine zN1 (fun hlen => ?_) | refine zN2 (fun hlen => ?_) | refine zAl (fun _ => ?_) | refine zAp (fun _ => ?_))
      refine zCall (hca) ?_
      rintro _ rfl
      repeat (first | refine gG ?_ | refine zN1 (fun hlen => ?_) | refine zN2 (fun hlen => ?_) | refine zAl (fun _ => ?_) | refine zAp (fun _ => ?_))
      first | refine zR ?_ | refine zQ ?_
      rfl
  have hk2 : k = 2 := by have := of_decide_eq_false h; omega
  subst hk2
  have hea := ha (by omega)
  have heb := hb (by omega)
  have la := lok_of hea
  have lb := lok_of heb
  have he : subE a b = 0 := by unfold subE; rw [if_neg (fun h => h hea), heb]
  rw [he, decide_eq_true rfl, Bool.true_and]
  clear h hk ha hb hca hea heb he
  have a16 := la.n16
  have b16 := lb.n16
  repeat (first | refine gX ?_ | refine zN1 (fun hlen => ?_) | refine zN2 (fun hlen => ?_) | refine zAl (fun _ => ?_) | refine zAp (fun _ => ?_))
  refine zBda ?_
  repeat (first | refine gX ?_ | refine zN1 (fun hlen => ?_) | refine zN2 (fun hlen => ?_) | refine zAl (fun _ => ?_) | refine zAp (fun _ => ?_))
  refine zBo (fun v0 => ?_)
  repeat (first | refine gG ?_ | refine zN1 (fun hlen => ?_) | refine zN2 (fun hlen => ?_) | refine zAl (fun _ => ?_) | refine zAp (fun _ => ?_))
  refine x_loop [4, 5, 9, 10, 11, 12, 14, 15, 32, 33, 34, 35, 36, 37, 38, 39, 40, 41, 42, 43, 44, 45, 46, 47, 48, 49, 50, 51, 52, 53, 54, 55, 56, 57, 58, 59, 60, 61, 62, 63, 64, 65, 66, 67, 68, 69, 70, 71, 72, 73, 74, 75, 76, 77, 78, 79, 80, 81, 82, 83, 84, 85, 86, 87, 88, 89, 90, 91, 92, 93, 94, 95, 96, 97, 98, 99, 100, 101, 102, 103, 104, 105, 106, 107, 108, 109, 110] (fun q : Nat × List (Int × Int) × Value => [(10, .c (iL (q.1 : Nat))), (9, .own 0 q.2.2)]) (fun q => [.row q.2.2 40 2 q.2.1.length (q.2.1.flatMap prTs)]) (fun q => q.1 ≤ q.2.1.length ∧ SInv a b q.2.1 q.1) (fun q => 256 - q.1) (0, [(0, 0)], v0) ⟨by simp, sinv0 la.n1 lb.n1⟩ ⟨rfl, rfl, trivial⟩ rfl ?_
  rintro ⟨i, Q, v⟩ ⟨hi, hS⟩
  dsimp only at hi hS ⊢
  have hlen := hS.len a16 b16
  have hi9 : i ≤ 9223372036854775806 := by omega
  repeat (first | refine gG ?_ | refine zN1 (fun hlen => ?_) | refine zN2 (fun hlen => ?_) | refine zAl (fun _ => ?_) | refine zAp (fun _ => ?_))
  refine x_cond rfl (fun h => ?_) (fun h => ?_)
  · have hi' : i < Q.length := by simpa using h
    obtain ⟨p, hp⟩ := nth hi'
    have hpr := hS.rg p (List.mem_of_getElem? hp)
    have g0 := pr_get0 hp
    have g1 := pr_get1 hp
    have hgo := goB_t (a := a) (b := b) (p := p)
    have hbad := go_bad hS hp
    have hend := fun {Q' : List (Int × Int)} (h : SIn a b Q' i p (stAt a p.1).br.length) => sin_end h
    have hstart : SIn a b Q i p 0 := ⟨hS, hp, fun z hz => by simp at hz⟩
    have hskip := fun {Q' : List (Int × Int)} {j : Nat} {z : Int × Int} (h : SIn a b Q' i p j) => sin_skip (z := z) h
    have hadd := fun {Q' : List (Int × Int)} {j : Nat} {z : Int × Int} (h : SIn a b Q' i p j) => sin_add (z := z) la lb h
    obtain ⟨p1, p2⟩ := p
    dsimp only at hpr g0 g1
    obtain ⟨q1, rfl⟩ : ∃ n : Nat, p1 = (n : Int) := ⟨p1.toNat, by omega⟩
    obtain ⟨q2, rfl⟩ : ∃ n : Nat, p2 = (n : Int) := ⟨p2.toNat, by omega⟩
    have hq1 : q1 < a.length := by omega
    have hq2 : q2 < b.length := by omega
    obtain ⟨sx, hx, ex⟩ : ∃ s, a[q1]? = some s ∧ stAt a (q1 : Nat) = s := by
      obtain ⟨s, hs⟩ := nth hq1
      exact ⟨s, hs, stAt_nat hs⟩
    obtain ⟨sy, hy, ey⟩ : ∃ s, b[q2]? = some s ∧ stAt b (q2 : Nat) = s := by
      obtain ⟨s, hs⟩ := nth hq2
      exact ⟨s, hs, stAt_nat hs⟩
    have hgB : goB a b ((q1 : Nat), (q2 : Nat)) = (decide (sx.kind = sy.kind) && ((!decide (sx.kind = 1) || covB sy.br sx.br) && (!decide (sx.kind = 2) || covB sx.br sy.br))) := by unfold goB; rw [ex, ey]
    dsimp only at hskip hadd hend
    rw [ex, ey] at hskip hadd
    rw [ex] at hend
    have hxt := se_at hx
    have hyt := se_at hy
    have hxl : sx.br.length ≤ 6 := (la.st _ (List.mem_of_getElem? hx)).len
    have hcv1 := covers_af sx sy
    have hcv2 := covers_af sy sx
    have hnx := next_af sy
    clear hgo hpr hx hy ex ey hp h hS
    obtain ⟨kx, bx⟩ := sx
    obtain ⟨ky, by_⟩ := sy
    dsimp only at hgB hskip hadd hend hcv1 hcv2 hnx hxl
    generalize goB a b ((q1 : Nat), (q2 : Nat)) = G at *
    generalize covB by_ bx = c1 at *
    generalize covB bx by_ = c2 at *
    repeat (first | refine gG ?_ | refine zN1 (fun hlen => ?_) | refine zN2 (fun hlen => ?_) | refine zAl (fun _ => ?_) | refine zAp (fun _ => ?_))
    refine x_row 0 rfl (show 0 < Q.length by omega) (fun hvQ => ?_)
    refine x_join [11, 12, 38, 39, 40, 41, 42, 43, 44, 45, 46, 47, 48, 49, 50, 51, 52, 53] (fun _ : Unit => [(11, .c (.pin (Se.ts ⟨kx, bx⟩) 0)), (12, .c (.pin (Se.ts ⟨ky, by_⟩) 0))]) (fun _ => [.row v 40 2 Q.length (Q.flatMap prTs)]) (fun _ => ?_) ?_
    rotate_left
    · skip
      refine ac_drawT3 [0, 0, 0, 0, 0, 2, 0, 0, 0, 0, 0, 0, 0, 2, 0, 0, 3, 3, 2, 2] (.fork4 [0, 1, 2, 3, 4, 8, 9, 10, 11, 12] 5 (.fork3 [6, 7] 13 (.fork [14, 15] 16 (.fin [17, 18, 19]) 17 (.fin [16, 18, 19])) 16 (.fork [] 13 (.fin [14, 15, 17, 18, 19]) 17 (.fork [] 13 (.fin [14, 15, 18, 19]) 18 (.fin [13, 14, 15, 19]))) 17 (.fork [] 13 (.fin [14, 15, 16, 18, 19]) 16 (.fork [] 13 (.fin [14, 15, 18, 19]) 18 (.fin [13, 14, 15, 19])))) 13 (.fork3 [14, 15] 5 (.fork [6, 7] 16 (.fin [17, 18, 19]) 17 (.fin [16, 18, 19])) 16 (.fork [] 5 (.fin [6, 7, 17, 18, 19]) 17 (.fin [5, 6, 7, 18, 19])) 17 (.fork [] 5 (.fin [6, 7, 16, 18, 19]) 16 (.fin [5, 6, 7, 18, 19]))) 16 (.fork3 [] 5 (.fork [6, 7] 13 (.fin [14, 15, 17, 18, 19]) 17 (.fork [] 13 (.fin [14, 15, 18, 19]) 18 (.fin [13, 14, 15, 19]))) 13 (.fork [14, 15] 5 (.fin [6, 7, 17, 18, 19]) 17 (.fin [5, 6, 7, 18, 19])) 17 (.fork [] 5 (.fork [6, 7] 13 (.fin [14, 15, 18, 19]) 18 (.fin [13, 14, 15, 19])) 13 (.fin [14, 15, 5, 6, 7, 18, 19]))) 17 (.fork3 [] 5 (.fork [6, 7] 13 (.fin [14, 15, 16, 18, 19]) 16 (.fork [] 13 (.fin [14, 15, 18, 19]) 18 (.fin [13, 14, 15, 19]))) 13 (.fork [14, 15] 5 (.fin [6, 7, 16, 18, 19]) 16 (.fin [5, 6, 7, 18, 19])) 16 (.fork [] 5 (.fork [6, 7] 13 (.fin [14, 15, 18, 19]) 18 (.fin [13, 14, 15, 19])) 13 (.fin [14, 15, 5, 6, 7, 18, 19])))) (by kernel_rfl) (by kernel_rfl) ?_
      refine wtt_fork4 ?_
      refine gW ?_
      apply w_p; (focus exact rfl); (focus exact rfl); focus (intro _; (refine zIxp (n := Q.length) i hvQ hi' ?_); exact det_refl)
      apply w_p; (focus exact rfl); (focus exact rfl); focus (intro _; (refine zIxa (n := 2) 0 (by decide) ?_); exact det_refl)
      refine gW ?_
      apply w_p; (focus exact rfl); (focus exact rfl); focus (intro _; (refine zIxp (n := Q.length) i hvQ hi' ?_); exact det_refl)
      apply w_p; (focus exact rfl); (focus exact rfl); focus (intro _; (refine zIxa (n := 2) 1 (by decide) ?_); exact det_refl)
      refine w_nil ?_
      refine ⟨?_, ?_, ?_, ?_⟩
      · apply w_l; (focus exact rfl); (focus exact rfl); (refine zElo1 g0 ?_)
        refine w_nil ?_
        refine wtt_fork3 ?_
        apply w_p; (focus exact rfl); (focus exact rfl); focus (intro _; (refine zIx q1 hq1 ?_); exact det_refl)
        apply w_p; (focus exact rfl); (focus exact rfl); focus (intro _; (refine zEl hxt rfl ?_); exact det_refl)
        refine w_nil ?_
        refine ⟨?_, ?_, ?_⟩
        · apply w_l; (focus exact rfl); (focus exact rfl); (refine zElo1 g1 ?_)
          refine w_nil ?_
          refine wtt_fork ?_
          apply w_p; (focus exact rfl); (focus exact rfl); focus (intro _; (refine zIx q2 hq2 ?_); exact det_refl)
          apply w_p; (focus exact rfl); (focus exact rfl); focus (intro _; (refine zEl hyt rfl ?_); exact det_refl)
          refine w_nil ?_
          refine ⟨?_, ?_⟩
          · apply w_a; (focus exact rfl); (focus exact rfl); refine v_alloc tok rfl rfl rfl (fun _ => rfl) (fun _ => ⟨⟨_, rfl⟩, ?_⟩)
            refine w_nil ?_
            refine wtt_fin ?_
            apply w_a; (focus exact rfl); (focus exact rfl); refine v_alloc tok rfl rfl rfl (fun _ => rfl) (fun _ => ⟨⟨_, rfl⟩, ?_⟩)
            apply w_l; (focus exact rfl); (focus exact rfl); (refine zS ?_)
            apply w_l; (focus exact rfl); (focus exact rfl); (refine zS ?_)
            refine w_nil ?_
            exact ⟨(), Wk.trans (wk_frzq 11 (Se.ts ⟨kx, bx⟩) rfl rfl (by repeat (first | exact rzs_nil | apply rzs_cons | exact rz_c | exact rz_nil rfl | apply rz_agg | exact rz_own rfl | apply rz_fn | exact rz_ptr rfl | apply rz_tup)) rfl rfl) (Wk.trans (wk_frzq 12 (Se.ts ⟨ky, by_⟩) rfl rfl (by repeat (first | exact rzs_nil | apply rzs_cons | exact rz_c | exact rz_nil rfl | apply rz_agg | exact rz_own rfl | apply rz_fn | exact rz_ptr rfl | apply rz_tup)) rfl rfl) (x_wkd 1 ⟨rfl, rfl, trivial⟩ rfl (by repeat (first | exact ag_refl | refine ag_upd rfl ?_ | refine ag_at rfl rfl ?_))))⟩
          · apply w_a; (focus exact rfl); (focus exact rfl); refine v_alloc tok rfl rfl rfl (fun _ => rfl) (fun _ => ⟨⟨_, rfl⟩, ?_⟩)
            refine w_nil ?_
            refine wtt_fin ?_
            apply w_a; (focus exact rfl); (focus exact rfl); refine v_alloc tok rfl rfl rfl (fun _ => rfl) (fun _ => ⟨⟨_, rfl⟩, ?_⟩)
            apply w_l; (focus exact rfl); (focus exact rfl); (refine zS ?_)
            apply w_l; (focus exact rfl); (focus exact rfl); (refine zS ?_)
            refine w_nil ?_
            exact ⟨(), Wk.trans (wk_frzq 11 (Se.ts ⟨kx, bx⟩) rfl rfl (by repeat (first | exact rzs_nil | apply rzs_cons | exact rz_c | exact rz_nil rfl | apply rz_agg | exact rz_own rfl | apply rz_fn | exact rz_ptr rfl | apply rz_tup)) rfl rfl) (Wk.trans (wk_frzq 12 (Se.ts ⟨ky, by_⟩) rfl rfl (by repeat (first | exact rzs_nil | apply rzs_cons | exact rz_c | exact rz_nil rfl | apply rz_agg | exact rz_own rfl | apply rz_fn | exact rz_ptr rfl | apply rz_tup)) rfl rfl) (x_wkd 1 ⟨rfl, rfl, trivial⟩ rfl (by repeat (first | exact ag_refl | refine ag_upd rfl ?_ | refine ag_at rfl rfl ?_))))⟩
        · apply w_a; (focus exact rfl); (focus exact rfl); refine v_alloc tok rfl rfl rfl (fun _ => rfl) (fun _ => ⟨⟨_, rfl⟩, ?_⟩)
          refine w_nil ?_
          refine wtt_fork ?_
          refine w_nil ?_
          refine ⟨?_, ?_⟩
          · apply w_l; (focus exact rfl); (focus exact rfl); (refine zElo1 g1 ?_)
            refine w_nil ?_
            refine wtt_fin ?_
            apply w_p; (focus exact rfl); (focus exact rfl); focus (intro _; (refine zIx q2 hq2 ?_); exact det_refl)
            apply w_p; (focus exact rfl); (focus exact rfl); focus (intro _; (refine zEl hyt rfl ?_); exact det_refl)
            apply w_a; (focus exact rfl); (focus exact rfl); refine v_alloc tok rfl rfl rfl (fun _ => rfl) (fun _ => ⟨⟨_, rfl⟩, ?_⟩)
            apply w_l; (focus exact rfl); (focus exact rfl); (refine zS ?_)
            apply w_l; (focus exact rfl); (focus exact rfl); (refine zS ?_)
            refine w_nil ?_
            exact ⟨(), Wk.trans (wk_frzq 11 (Se.ts ⟨kx, bx⟩) rfl rfl (by repeat (first | exact rzs_nil | apply rzs_cons | exact rz_c | exact rz_nil rfl | apply rz_agg | exact rz_own rfl | apply rz_fn | exact rz_ptr rfl | apply rz_tup)) rfl rfl) (Wk.trans (wk_frzq 12 (Se.ts ⟨ky, by_⟩) rfl rfl (by repeat (first | exact rzs_nil | apply rzs_cons | exact rz_c | exact rz_nil rfl | apply rz_agg | exact rz_own rfl | apply rz_fn | exact rz_ptr rfl | apply rz_tup)) rfl rfl) (x_wkd 1 ⟨rfl, rfl, trivial⟩ rfl (by repeat (first | exact ag_refl | refine ag_upd rfl ?_ | refine ag_at rfl rfl ?_))))⟩
          · apply w_a; (focus exact rfl); (focus exact rfl); refine v_alloc tok rfl rfl rfl (fun _ => rfl) (fun _ => ⟨⟨_, rfl⟩, ?_⟩)
            refine w_nil ?_
            refine wtt_fork ?_
            refine w_nil ?_
            refine ⟨?_, ?_⟩
            · apply w_l; (focus exact rfl); (focus exact rfl); (refine zElo1 g1 ?_)
              refine w_nil ?_
              refine wtt_fin ?_
              apply w_p; (focus exact rfl); (focus exact rfl); focus (intro _; (refine zIx q2 hq2 ?_); exact det_refl)
              apply w_p; (focus exact rfl); (focus exact rfl); focus (intro _; (refine zEl hyt rfl ?_); exact det_refl)
              apply w_l; (focus exact rfl); (focus exact rfl); (refine zS ?_)
              apply w_l; (focus exact rfl); (focus exact rfl); (refine zS ?_)
              refine w_nil ?_
              exact ⟨(), Wk.trans (wk_frzq 11 (Se.ts ⟨kx, bx⟩) rfl rfl (by repeat (first | exact rzs_nil | apply rzs_cons | exact rz_c | exact rz_nil rfl | apply rz_agg | exact rz_own rfl | apply rz_fn | exact rz_ptr rfl | apply rz_tup)) rfl rfl) (Wk.trans (wk_frzq 12 (Se.ts ⟨ky, by_⟩) rfl rfl (by repeat (first | exact rzs_nil | apply rzs_cons | exact rz_c | exact rz_nil rfl | apply rz_agg | exact rz_own rfl | apply rz_fn | exact rz_ptr rfl | apply rz_tup)) rfl rfl) (x_wkd 1 ⟨rfl, rfl, trivial⟩ rfl (by repeat (first | exact ag_refl | refine ag_upd rfl ?_ | refine ag_at rfl rfl ?_))))⟩
            · apply w_l; (focus exact rfl); (focus exact rfl); (refine zS ?_)
              refine w_nil ?_
              refine wtt_fin ?_
              apply w_l; (focus exact rfl); (focus exact rfl); (refine zElo1 g1 ?_)
              apply w_p; (focus exact rfl); (focus exact rfl); focus (intro _; (refine zIx q2 hq2 ?_); exact det_refl)
              apply w_p; (focus exact rfl); (focus exact rfl); focus (intro _; (refine zEl hyt rfl ?_); exact det_refl)
              apply w_l; (focus exact rfl); (focus exact rfl); (refine zS ?_)
              refine w_nil ?_
              exact ⟨(), Wk.trans (wk_frzq 11 (Se.ts ⟨kx, bx⟩) rfl rfl (by repeat (first | exact rzs_nil | apply rzs_cons | exact rz_c | exact rz_nil rfl | apply rz_agg | exact rz_own rfl | apply rz_fn | exact rz_ptr rfl | apply rz_tup)) rfl rfl) (Wk.trans (wk_frzq 12 (Se.ts ⟨ky, by_⟩) rfl rfl (by repeat (first | exact rzs_nil | apply rzs_cons | exact rz_c | exact rz_nil rfl | apply rz_agg | exact rz_own rfl | apply rz_fn | exact rz_ptr rfl | apply rz_tup)) rfl rfl) (x_wkd 1 ⟨rfl, rfl, trivial⟩ rfl (by repeat (first | exact ag_refl | refine ag_upd rfl ?_ | refine ag_at rfl rfl ?_))))⟩
        · apply w_a; (focus exact rfl); (focus exact rfl); refine v_alloc tok rfl rfl rfl (fun _ => rfl) (fun _ => ⟨⟨_, rfl⟩, ?_⟩)
          refine w_nil ?_
          refine wtt_fork ?_
          refine w_nil ?_
          refine ⟨?_, ?_⟩
          · apply w_l; (focus exact rfl); (focus exact rfl); (refine zElo1 g1 ?_)
            refine w_nil ?_
            refine wtt_fin ?_
            apply w_p; (focus exact rfl); (focus exact rfl); focus (intro _; (refine zIx q2 hq2 ?_); exact det_refl)
            apply w_p; (focus exact rfl); (focus exact rfl); focus (intro _; (refine zEl hyt rfl ?_); exact det_refl)
            apply w_a; (focus exact rfl); (focus exact rfl); refine v_alloc tok rfl rfl rfl (fun _ => rfl) (fun _ => ⟨⟨_, rfl⟩, ?_⟩)
            apply w_l; (focus exact rfl); (focus exact rfl); (refine zS ?_)
            apply w_l; (focus exact rfl); (focus exact rfl); (refine zS ?_)
            refine w_nil ?_
            exact ⟨(), Wk.trans (wk_frzq 11 (Se.ts ⟨kx, bx⟩) rfl rfl (by repeat (first | exact rzs_nil | apply rzs_cons | exact rz_c | exact rz_nil rfl | apply rz_agg | exact rz_own rfl | apply rz_fn | exact rz_ptr rfl | apply rz_tup)) rfl rfl) (Wk.trans (wk_frzq 12 (Se.ts ⟨ky, by_⟩) rfl rfl (by repeat (first | exact rzs_nil | apply rzs_cons | exact rz_c | exact rz_nil rfl | apply rz_agg | exact rz_own rfl | apply rz_fn | exact rz_ptr rfl | apply rz_tup)) rfl rfl) (x_wkd 1 ⟨rfl, rfl, trivial⟩ rfl (by repeat (first | exact ag_refl | refine ag_upd rfl ?_ | refine ag_at rfl rfl ?_))))⟩
          · apply w_a; (focus exact rfl); (focus exact rfl); refine v_alloc tok rfl rfl rfl (fun _ => rfl) (fun _ => ⟨⟨_, rfl⟩, ?_⟩)
            refine w_nil ?_
            refine wtt_fork ?_
            refine w_nil ?_
            refine ⟨?_, ?_⟩
            · apply w_l; (focus exact rfl); (focus exact rfl); (refine zElo1 g1 ?_)
              refine w_nil ?_
              refine wtt_fin ?_
              apply w_p; (focus exact rfl); (focus exact rfl); focus (intro _; (refine zIx q2 hq2 ?_); exact det_refl)
              apply w_p; (focus exact rfl); (focus exact rfl); focus (intro _; (refine zEl hyt rfl ?_); exact det_refl)
              apply w_l; (focus exact rfl); (focus exact rfl); (refine zS ?_)
              apply w_l; (focus exact rfl); (focus exact rfl); (refine zS ?_)
              refine w_nil ?_
              exact ⟨(), Wk.trans (wk_frzq 11 (Se.ts ⟨kx, bx⟩) rfl rfl (by repeat (first | exact rzs_nil | apply rzs_cons | exact rz_c | exact rz_nil rfl | apply rz_agg | exact rz_own rfl | apply rz_fn | exact rz_ptr rfl | apply rz_tup)) rfl rfl) (Wk.trans (wk_frzq 12 (Se.ts ⟨ky, by_⟩) rfl rfl (by repeat (first | exact rzs_nil | apply rzs_cons | exact rz_c | exact rz_nil rfl | apply rz_agg | exact rz_own rfl | apply rz_fn | exact rz_ptr rfl | apply rz_tup)) rfl rfl) (x_wkd 1 ⟨rfl, rfl, trivial⟩ rfl (by repeat (first | exact ag_refl | refine ag_upd rfl ?_ | refine ag_at rfl rfl ?_))))⟩
            · apply w_l; (focus exact rfl); (focus exact rfl); (refine zS ?_)
              refine w_nil ?_
              refine wtt_fin ?_
              apply w_l; (focus exact rfl); (focus exact rfl); (refine zElo1 g1 ?_)
              apply w_p; (focus exact rfl); (focus exact rfl); focus (intro _; (refine zIx q2 hq2 ?_); exact det_refl)
              apply w_p; (focus exact rfl); (focus exact rfl); focus (intro _; (refine zEl hyt rfl ?_); exact det_refl)
              apply w_l; (focus exact rfl); (focus exact rfl); (refine zS ?_)
              refine w_nil ?_
              exact ⟨(), Wk.trans (wk_frzq 11 (Se.ts ⟨kx, bx⟩) rfl rfl (by repeat (first | exact rzs_nil | apply rzs_cons | exact rz_c | exact rz_nil rfl | apply rz_agg | exact rz_own rfl | apply rz_fn | exact rz_ptr rfl | apply rz_tup)) rfl rfl) (Wk.trans (wk_frzq 12 (Se.ts ⟨ky, by_⟩) rfl rfl (by repeat (first | exact rzs_nil | apply rzs_cons | exact rz_c | exact rz_nil rfl | apply rz_agg | exact rz_own rfl | apply rz_fn | exact rz_ptr rfl | apply rz_tup)) rfl rfl) (x_wkd 1 ⟨rfl, rfl, trivial⟩ rfl (by repeat (first | exact ag_refl | refine ag_upd rfl ?_ | refine ag_at rfl rfl ?_))))⟩
      · apply w_l; (focus exact rfl); (focus exact rfl); (refine zElo1 g1 ?_)
        refine w_nil ?_
        refine wtt_fork3 ?_
        apply w_p; (focus exact rfl); (focus exact rfl); focus (intro _; (refine zIx q2 hq2 ?_); exact det_refl)
        apply w_p; (focus exact rfl); (focus exact rfl); focus (intro _; (refine zEl hyt rfl ?_); exact det_refl)
        refine w_nil ?_
        refine ⟨?_, ?_, ?_⟩
        · apply w_l; (focus exact rfl); (focus exact rfl); (refine zElo1 g0 ?_)
          refine w_nil ?_
          refine wtt_fork ?_
          apply w_p; (focus exact rfl); (focus exact rfl); focus (intro _; (refine zIx q1 hq1 ?_); exact det_refl)
          apply w_p; (focus exact rfl); (focus exact rfl); focus (intro _; (refine zEl hxt rfl ?_); exact det_refl)
          refine w_nil ?_
          refine ⟨?_, ?_⟩
          · apply w_a; (focus exact rfl); (focus exact rfl); refine v_alloc tok rfl rfl rfl (fun _ => rfl) (fun _ => ⟨⟨_, rfl⟩, ?_⟩)
            refine w_nil ?_
            refine wtt_fin ?_
            apply w_a; (focus exact rfl); (focus exact rfl); refine v_alloc tok rfl rfl rfl (fun _ => rfl) (fun _ => ⟨⟨_, rfl⟩, ?_⟩)
            apply w_l; (focus exact rfl); (focus exact rfl); (refine zS ?_)
            apply w_l; (focus exact rfl); (focus exact rfl); (refine zS ?_)
            refine w_nil ?_
            exact ⟨(), Wk.trans (wk_frzq 11 (Se.ts ⟨kx, bx⟩) rfl rfl (by repeat (first | exact rzs_nil | apply rzs_cons | exact rz_c | exact rz_nil rfl | apply rz_agg | exact rz_own rfl | apply rz_fn | exact rz_ptr rfl | apply rz_tup)) rfl rfl) (Wk.trans (wk_frzq 12 (Se.ts ⟨ky, by_⟩) rfl rfl (by repeat (first | exact rzs_nil | apply rzs_cons | exact rz_c | exact rz_nil rfl | apply rz_agg | exact rz_own rfl | apply rz_fn | exact rz_ptr rfl | apply rz_tup)) rfl rfl) (x_wkd 1 ⟨rfl, rfl, trivial⟩ rfl (by repeat (first | exact ag_refl | refine ag_upd rfl ?_ | refine ag_at rfl rfl ?_))))⟩
          · apply w_a; (focus exact rfl); (focus exact rfl); refine v_alloc tok rfl rfl rfl (fun _ => rfl) (fun _ => ⟨⟨_, rfl⟩, ?_⟩)
            refine w_nil ?_
            refine wtt_fin ?_
            apply w_a; (focus exact rfl); (focus exact rfl); refine v_alloc tok rfl rfl rfl (fun _ => rfl) (fun _ => ⟨⟨_, rfl⟩, ?_⟩)
            apply w_l; (focus exact rfl); (focus exact rfl); (refine zS ?_)
            apply w_l; (focus exact rfl); (focus exact rfl); (refine zS ?_)
            refine w_nil ?_
            exact ⟨(), Wk.trans (wk_frzq 11 (Se.ts ⟨kx, bx⟩) rfl rfl (by repeat (first | exact rzs_nil | apply rzs_cons | exact rz_c | exact rz_nil rfl | apply rz_agg | exact rz_own rfl | apply rz_fn | exact rz_ptr rfl | apply rz_tup)) rfl rfl) (Wk.trans (wk_frzq 12 (Se.ts ⟨ky, by_⟩) rfl rfl (by repeat (first | exact rzs_nil | apply rzs_cons | exact rz_c | exact rz_nil rfl | apply rz_agg | exact rz_own rfl | apply rz_fn | exact rz_ptr rfl | apply rz_tup)) rfl rfl) (x_wkd 1 ⟨rfl, rfl, trivial⟩ rfl (by repeat (first | exact ag_refl | refine ag_upd rfl ?_ | refine ag_at rfl rfl ?_))))⟩
        · apply w_a; (focus exact rfl); (focus exact rfl); refine v_alloc tok rfl rfl rfl (fun _ => rfl) (fun _ => ⟨⟨_, rfl⟩, ?_⟩)
          refine w_nil ?_
          refine wtt_fork ?_
          refine w_nil ?_
          refine ⟨?_, ?_⟩
          · apply w_l; (focus exact rfl); (focus exact rfl); (refine zElo1 g0 ?_)
            refine w_nil ?_
            refine wtt_fin ?_
            apply w_p; (focus exact rfl); (focus exact rfl); focus (intro _; (refine zIx q1 hq1 ?_); exact det_refl)
            apply w_p; (focus exact rfl); (focus exact rfl); focus (intro _; (refine zEl hxt rfl ?_); exact det_refl)
            apply w_a; (focus exact rfl); (focus exact rfl); refine v_alloc tok rfl rfl rfl (fun _ => rfl) (fun _ => ⟨⟨_, rfl⟩, ?_⟩)
            apply w_l; (focus exact rfl); (focus exact rfl); (refine zS ?_)
            apply w_l; (focus exact rfl); (focus exact rfl); (refine zS ?_)
            refine w_nil ?_
            exact ⟨(), Wk.trans (wk_frzq 11 (Se.ts ⟨kx, bx⟩) rfl rfl (by repeat (first | exact rzs_nil | apply rzs_cons | exact rz_c | exact rz_nil rfl | apply rz_agg | exact rz_own rfl | apply rz_fn | exact rz_ptr rfl | apply rz_tup)) rfl rfl) (Wk.trans (wk_frzq 12 (Se.ts ⟨ky, by_⟩) rfl rfl (by repeat (first | exact rzs_nil | apply rzs_cons | exact rz_c | exact rz_nil rfl | apply rz_agg | exact rz_own rfl | apply rz_fn | exact rz_ptr rfl | apply rz_tup)) rfl rfl) (x_wkd 1 ⟨rfl, rfl, trivial⟩ rfl (by repeat (first | exact ag_refl | refine ag_upd rfl ?_ | refine ag_at rfl rfl ?_))))⟩
          · apply w_a; (focus exact rfl); (focus exact rfl); refine v_alloc tok rfl rfl rfl (fun _ => rfl) (fun _ => ⟨⟨_, rfl⟩, ?_⟩)
            refine w_nil ?_
            refine wtt_fin ?_
            apply w_l; (focus exact rfl); (focus exact rfl); (refine zElo1 g0 ?_)
            apply w_p; (focus exact rfl); (focus exact rfl); focus (intro _; (refine zIx q1 hq1 ?_); exact det_refl)
            apply w_p; (focus exact rfl); (focus exact rfl); focus (intro _; (refine zEl hxt rfl ?_); exact det_refl)
            apply w_l; (focus exact rfl); (focus exact rfl); (refine zS ?_)
            apply w_l; (focus exact rfl); (focus exact rfl); (refine zS ?_)
            refine w_nil ?_
            exact ⟨(), Wk.trans (wk_frzq 11 (Se.ts ⟨kx, bx⟩) rfl rfl (by repeat (first | exact rzs_nil | apply rzs_cons | exact rz_c | exact rz_nil rfl | apply rz_agg | exact rz_own rfl | apply rz_fn | exact rz_ptr rfl | apply rz_tup)) rfl rfl) (Wk.trans (wk_frzq 12 (Se.ts ⟨ky, by_⟩) rfl rfl (by repeat (first | exact rzs_nil | apply rzs_cons | exact rz_c | exact rz_nil rfl | apply rz_agg | exact rz_own rfl | apply rz_fn | exact rz_ptr rfl | apply rz_tup)) rfl rfl) (x_wkd 1 ⟨rfl, rfl, trivial⟩ rfl (by repeat (first | exact ag_refl | refine ag_upd rfl ?_ | refine ag_at rfl rfl ?_))))⟩
        · apply w_a; (focus exact rfl); (focus exact rfl); refine v_alloc tok rfl rfl rfl (fun _ => rfl) (fun _ => ⟨⟨_, rfl⟩, ?_⟩)
          refine w_nil ?_
          refine wtt_fork ?_
          refine w_nil ?_
          refine ⟨?_, ?_⟩
          · apply w_l; (focus exact rfl); (focus exact rfl); (refine zElo1 g0 ?_)
            refine w_nil ?_
            refine wtt_fin ?_
            apply w_p; (focus exact rfl); (focus exact rfl); focus (intro _; (refine zIx q1 hq1 ?_); exact det_refl)
            apply w_p; (focus exact rfl); (focus exact rfl); focus (intro _; (refine zEl hxt rfl ?_); exact det_refl)
            apply w_a; (focus exact rfl); (focus exact rfl); refine v_alloc tok rfl rfl rfl (fun _ => rfl) (fun _ => ⟨⟨_, rfl⟩, ?_⟩)
            apply w_l; (focus exact rfl); (focus exact rfl); (refine zS ?_)
            apply w_l; (focus exact rfl); (focus exact rfl); (refine zS ?_)
            refine w_nil ?_
            exact ⟨(), Wk.trans (wk_frzq 11 (Se.ts ⟨kx, bx⟩) rfl rfl (by repeat (first | exact rzs_nil | apply rzs_cons | exact rz_c | exact rz_nil rfl | apply rz_agg | exact rz_own rfl | apply rz_fn | exact rz_ptr rfl | apply rz_tup)) rfl rfl) (Wk.trans (wk_frzq 12 (Se.ts ⟨ky, by_⟩) rfl rfl (by repeat (first | exact rzs_nil | apply rzs_cons | exact rz_c | exact rz_nil rfl | apply rz_agg | exact rz_own rfl | apply rz_fn | exact rz_ptr rfl | apply rz_tup)) rfl rfl) (x_wkd 1 ⟨rfl, rfl, trivial⟩ rfl (by repeat (first | exact ag_refl | refine ag_upd rfl ?_ | refine ag_at rfl rfl ?_))))⟩
          · apply w_a; (focus exact rfl); (focus exact rfl); refine v_alloc tok rfl rfl rfl (fun _ => rfl) (fun _ => ⟨⟨_, rfl⟩, ?_⟩)
            refine w_nil ?_
            refine wtt_fin ?_
            apply w_l; (focus exact rfl); (focus exact rfl); (refine zElo1 g0 ?_)
            apply w_p; (focus exact rfl); (focus exact rfl); focus (intro _; (refine zIx q1 hq1 ?_); exact det_refl)
            apply w_p; (focus exact rfl); (focus exact rfl); focus (intro _; (refine zEl hxt rfl ?_); exact det_refl)
            apply w_l; (focus exact rfl); (focus exact rfl); (refine zS ?_)
            apply w_l; (focus exact rfl); (focus exact rfl); (refine zS ?_)
            refine w_nil ?_
            exact ⟨(), Wk.trans (wk_frzq 11 (Se.ts ⟨kx, bx⟩) rfl rfl (by repeat (first | exact rzs_nil | apply rzs_cons | exact rz_c | exact rz_nil rfl | apply rz_agg | exact rz_own rfl | apply rz_fn | exact rz_ptr rfl | apply rz_tup)) rfl rfl) (Wk.trans (wk_frzq 12 (Se.ts ⟨ky, by_⟩) rfl rfl (by repeat (first | exact rzs_nil | apply rzs_cons | exact rz_c | exact rz_nil rfl | apply rz_agg | exact rz_own rfl | apply rz_fn | exact rz_ptr rfl | apply rz_tup)) rfl rfl) (x_wkd 1 ⟨rfl, rfl, trivial⟩ rfl (by repeat (first | exact ag_refl | refine ag_upd rfl ?_ | refine ag_at rfl rfl ?_))))⟩
      · apply w_a; (focus exact rfl); (focus exact rfl); refine v_alloc tok rfl rfl rfl (fun _ => rfl) (fun _ => ⟨⟨_, rfl⟩, ?_⟩)
        refine w_nil ?_
        refine wtt_fork3 ?_
        refine w_nil ?_
        refine ⟨?_, ?_, ?_⟩
        · apply w_l; (focus exact rfl); (focus exact rfl); (refine zElo1 g0 ?_)
          refine w_nil ?_
          refine wtt_fork ?_
          apply w_p; (focus exact rfl); (focus exact rfl); focus (intro _; (refine zIx q1 hq1 ?_); exact det_refl)
          apply w_p; (focus exact rfl); (focus exact rfl); focus (intro _; (refine zEl hxt rfl ?_); exact det_refl)
          refine w_nil ?_
          refine ⟨?_, ?_⟩
          · apply w_l; (focus exact rfl); (focus exact rfl); (refine zElo1 g1 ?_)
            refine w_nil ?_
            refine wtt_fin ?_
            apply w_p; (focus exact rfl); (focus exact rfl); focus (intro _; (refine zIx q2 hq2 ?_); exact det_refl)
            apply w_p; (focus exact rfl); (focus exact rfl); focus (intro _; (refine zEl hyt rfl ?_); exact det_refl)
            apply w_a; (focus exact rfl); (focus exact rfl); refine v_alloc tok rfl rfl rfl (fun _ => rfl) (fun _ => ⟨⟨_, rfl⟩, ?_⟩)
            apply w_l; (focus exact rfl); (focus exact rfl); (refine zS ?_)
            apply w_l; (focus exact rfl); (focus exact rfl); (refine zS ?_)
            refine w_nil ?_
            exact ⟨(), Wk.trans (wk_frzq 11 (Se.ts ⟨kx, bx⟩) rfl rfl (by repeat (first | exact rzs_nil | apply rzs_cons | exact rz_c | exact rz_nil rfl | apply rz_agg | exact rz_own rfl | apply rz_fn | exact rz_ptr rfl | apply rz_tup)) rfl rfl) (Wk.trans (wk_frzq 12 (Se.ts ⟨ky, by_⟩) rfl rfl (by repeat (first | exact rzs_nil | apply rzs_cons | exact rz_c | exact rz_nil rfl | apply rz_agg | exact rz_own rfl | apply rz_fn | exact rz_ptr rfl | apply rz_tup)) rfl rfl) (x_wkd 1 ⟨rfl, rfl, trivial⟩ rfl (by repeat (first | exact ag_refl | refine ag_upd rfl ?_ | refine ag_at rfl rfl ?_))))⟩
          · apply w_a; (focus exact rfl); (focus exact rfl); refine v_alloc tok rfl rfl rfl (fun _ => rfl) (fun _ => ⟨⟨_, rfl⟩, ?_⟩)
            refine w_nil ?_
            refine wtt_fork ?_
            refine w_nil ?_
            refine ⟨?_, ?_⟩
            · apply w_l; (focus exact rfl); (focus exact rfl); (refine zElo1 g1 ?_)
              refine w_nil ?_
              refine wtt_fin ?_
              apply w_p; (focus exact rfl); (focus exact rfl); focus (intro _; (refine zIx q2 hq2 ?_); exact det_refl)
              apply w_p; (focus exact rfl); (focus exact rfl); focus (intro _; (refine zEl hyt rfl ?_); exact det_refl)
              apply w_l; (focus exact rfl); (focus exact rfl); (refine zS ?_)
              apply w_l; (focus exact rfl); (focus exact rfl); (refine zS ?_)
              refine w_nil ?_
              exact ⟨(), Wk.trans (wk_frzq 11 (Se.ts ⟨kx, bx⟩) rfl rfl (by repeat (first | exact rzs_nil | apply rzs_cons | exact rz_c | exact rz_nil rfl | apply rz_agg | exact rz_own rfl | apply rz_fn | exact rz_ptr rfl | apply rz_tup)) rfl rfl) (Wk.trans (wk_frzq 12 (Se.ts ⟨ky, by_⟩) rfl rfl (by repeat (first | exact rzs_nil | apply rzs_cons | exact rz_c | exact rz_nil rfl | apply rz_agg | exact rz_own rfl | apply rz_fn | exact rz_ptr rfl | apply rz_tup)) rfl rfl) (x_wkd 1 ⟨rfl, rfl, trivial⟩ rfl (by repeat (first | exact ag_refl | refine ag_upd rfl ?_ | refine ag_at rfl rfl ?_))))⟩
            · apply w_l; (focus exact rfl); (focus exact rfl); (refine zS ?_)
              refine w_nil ?_
              refine wtt_fin ?_
              apply w_l; (focus exact rfl); (focus exact rfl); (refine zElo1 g1 ?_)
              apply w_p; (focus exact rfl); (focus exact rfl); focus (intro _; (refine zIx q2 hq2 ?_); exact det_refl)
              apply w_p; (focus exact rfl); (focus exact rfl); focus (intro _; (refine zEl hyt rfl ?_); exact det_refl)
              apply w_l; (focus exact rfl); (focus exact rfl); (refine zS ?_)
              refine w_nil ?_
              exact ⟨(), Wk.trans (wk_frzq 11 (Se.ts ⟨kx, bx⟩) rfl rfl (by repeat (first | exact rzs_nil | apply rzs_cons | exact rz_c | exact rz_nil rfl | apply rz_agg | exact rz_own rfl | apply rz_fn | exact rz_ptr rfl | apply rz_tup)) rfl rfl) (Wk.trans (wk_frzq 12 (Se.ts ⟨ky, by_⟩) rfl rfl (by repeat (first | exact rzs_nil | apply rzs_cons | exact rz_c | exact rz_nil rfl | apply rz_agg | exact rz_own rfl | apply rz_fn | exact rz_ptr rfl | apply rz_tup)) rfl rfl) (x_wkd 1 ⟨rfl, rfl, trivial⟩ rfl (by repeat (first | exact ag_refl | refine ag_upd rfl ?_ | refine ag_at rfl rfl ?_))))⟩
        · apply w_l; (focus exact rfl); (focus exact rfl); (refine zElo1 g1 ?_)
          refine w_nil ?_
          refine wtt_fork ?_
          apply w_p; (focus exact rfl); (focus exact rfl); focus (intro _; (refine zIx q2 hq2 ?_); exact det_refl)
          apply w_p; (focus exact rfl); (focus exact rfl); focus (intro _; (refine zEl hyt rfl ?_); exact det_refl)
          refine w_nil ?_
          refine ⟨?_, ?_⟩
          · apply w_l; (focus exact rfl); (focus exact rfl); (refine zElo1 g0 ?_)
            refine w_nil ?_
            refine wtt_fin ?_
            apply w_p; (focus exact rfl); (focus exact rfl); focus (intro _; (refine zIx q1 hq1 ?_); exact det_refl)
            apply w_p; (focus exact rfl); (focus exact rfl); focus (intro _; (refine zEl hxt rfl ?_); exact det_refl)
            apply w_a; (focus exact rfl); (focus exact rfl); refine v_alloc tok rfl rfl rfl (fun _ => rfl) (fun _ => ⟨⟨_, rfl⟩, ?_⟩)
            apply w_l; (focus exact rfl); (focus exact rfl); (refine zS ?_)
            apply w_l; (focus exact rfl); (focus exact rfl); (refine zS ?_)
            refine w_nil ?_
            exact ⟨(), Wk.trans (wk_frzq 11 (Se.ts ⟨kx, bx⟩) rfl rfl (by repeat (first | exact rzs_nil | apply rzs_cons | exact rz_c | exact rz_nil rfl | apply rz_agg | exact rz_own rfl | apply rz_fn | exact rz_ptr rfl | apply rz_tup)) rfl rfl) (Wk.trans (wk_frzq 12 (Se.ts ⟨ky, by_⟩) rfl rfl (by repeat (first | exact rzs_nil | apply rzs_cons | exact rz_c | exact rz_nil rfl | apply rz_agg | exact rz_own rfl | apply rz_fn | exact rz_ptr rfl | apply rz_tup)) rfl rfl) (x_wkd 1 ⟨rfl, rfl, trivial⟩ rfl (by repeat (first | exact ag_refl | refine ag_upd rfl ?_ | refine ag_at rfl rfl ?_))))⟩
          · apply w_a; (focus exact rfl); (focus exact rfl); refine v_alloc tok rfl rfl rfl (fun _ => rfl) (fun _ => ⟨⟨_, rfl⟩, ?_⟩)
            refine w_nil ?_
            refine wtt_fin ?_
            apply w_l; (focus exact rfl); (focus exact rfl); (refine zElo1 g0 ?_)
            apply w_p; (focus exact rfl); (focus exact rfl); focus (intro _; (refine zIx q1 hq1 ?_); exact det_refl)
            apply w_p; (focus exact rfl); (focus exact rfl); focus (intro _; (refine zEl hxt rfl ?_); exact det_refl)
            apply w_l; (focus exact rfl); (focus exact rfl); (refine zS ?_)
            apply w_l; (focus exact rfl); (focus exact rfl); (refine zS ?_)
            refine w_nil ?_
            exact ⟨(), Wk.trans (wk_frzq 11 (Se.ts ⟨kx, bx⟩) rfl rfl (by repeat (first | exact rzs_nil | apply rzs_cons | exact rz_c | exact rz_nil rfl | apply rz_agg | exact rz_own rfl | apply rz_fn | exact rz_ptr rfl | apply rz_tup)) rfl rfl) (Wk.trans (wk_frzq 12 (Se.ts ⟨ky, by_⟩) rfl rfl (by repeat (first | exact rzs_nil | apply rzs_cons | exact rz_c | exact rz_nil rfl | apply rz_agg | exact rz_own rfl | apply rz_fn | exact rz_ptr rfl | apply rz_tup)) rfl rfl) (x_wkd 1 ⟨rfl, rfl, trivial⟩ rfl (by repeat (first | exact ag_refl | refine ag_upd rfl ?_ | refine ag_at rfl rfl ?_))))⟩
        · apply w_a; (focus exact rfl); (focus exact rfl); refine v_alloc tok rfl rfl rfl (fun _ => rfl) (fun _ => ⟨⟨_, rfl⟩, ?_⟩)
          refine w_nil ?_
          refine wtt_fork ?_
          refine w_nil ?_
          refine ⟨?_, ?_⟩
          · apply w_l; (focus exact rfl); (focus exact rfl); (refine zElo1 g0 ?_)
            refine w_nil ?_
            refine wtt_fork ?_
            apply w_p; (focus exact rfl); (focus exact rfl); focus (intro _; (refine zIx q1 hq1 ?_); exact det_refl)
            apply w_p; (focus exact rfl); (focus exact rfl); focus (intro _; (refine zEl hxt rfl ?_); exact det_refl)
            refine w_nil ?_
            refine ⟨?_, ?_⟩
            · apply w_l; (focus exact rfl); (focus exact rfl); (refine zElo1 g1 ?_)
              refine w_nil ?_
              refine wtt_fin ?_
              apply w_p; (focus exact rfl); (focus exact rfl); focus (intro _; (refine zIx q2 hq2 ?_); exact det_refl)
              apply w_p; (focus exact rfl); (focus exact rfl); focus (intro _; (refine zEl hyt rfl ?_); exact det_refl)
              apply w_l; (focus exact rfl); (focus exact rfl); (refine zS ?_)
              apply w_l; (focus exact rfl); (focus exact rfl); (refine zS ?_)
              refine w_nil ?_
              exact ⟨(), Wk.trans (wk_frzq 11 (Se.ts ⟨kx, bx⟩) rfl rfl (by repeat (first | exact rzs_nil | apply rzs_cons | exact rz_c | exact rz_nil rfl | apply rz_agg | exact rz_own rfl | apply rz_fn | exact rz_ptr rfl | apply rz_tup)) rfl rfl) (Wk.trans (wk_frzq 12 (Se.ts ⟨ky, by_⟩) rfl rfl (by repeat (first | exact rzs_nil | apply rzs_cons | exact rz_c | exact rz_nil rfl | apply rz_agg | exact rz_own rfl | apply rz_fn | exact rz_ptr rfl | apply rz_tup)) rfl rfl) (x_wkd 1 ⟨rfl, rfl, trivial⟩ rfl (by repeat (first | exact ag_refl | refine ag_upd rfl ?_ | refine ag_at rfl rfl ?_))))⟩
            · apply w_l; (focus exact rfl); (focus exact rfl); (refine zS ?_)
              refine w_nil ?_
              refine wtt_fin ?_
              apply w_l; (focus exact rfl); (focus exact rfl); (refine zElo1 g1 ?_)
              apply w_p; (focus exact rfl); (focus exact rfl); focus (intro _; (refine zIx q2 hq2 ?_); exact det_refl)
              apply w_p; (focus exact rfl); (focus exact rfl); focus (intro _; (refine zEl hyt rfl ?_); exact det_refl)
              apply w_l; (focus exact rfl); (focus exact rfl); (refine zS ?_)
              refine w_nil ?_
              exact ⟨(), Wk.trans (wk_frzq 11 (Se.ts ⟨kx, bx⟩) rfl rfl (by repeat (first | exact rzs_nil | apply rzs_cons | exact rz_c | exact rz_nil rfl | apply rz_agg | exact rz_own rfl | apply rz_fn | exact rz_ptr rfl | apply rz_tup)) rfl rfl) (Wk.trans (wk_frzq 12 (Se.ts ⟨ky, by_⟩) rfl rfl (by repeat (first | exact rzs_nil | apply rzs_cons | exact rz_c | exact rz_nil rfl | apply rz_agg | exact rz_own rfl | apply rz_fn | exact rz_ptr rfl | apply rz_tup)) rfl rfl) (x_wkd 1 ⟨rfl, rfl, trivial⟩ rfl (by repeat (first | exact ag_refl | refine ag_upd rfl ?_ | refine ag_at rfl rfl ?_))))⟩
          · apply w_l; (focus exact rfl); (focus exact rfl); (refine zElo1 g1 ?_)
            refine w_nil ?_
            refine wtt_fin ?_
            apply w_p; (focus exact rfl); (focus exact rfl); focus (intro _; (refine zIx q2 hq2 ?_); exact det_refl)
            apply w_p; (focus exact rfl); (focus exact rfl); focus (intro _; (refine zEl hyt rfl ?_); exact det_refl)
            apply w_l; (focus exact rfl); (focus exact rfl); (refine zElo1 g0 ?_)
            apply w_p; (focus exact rfl); (focus exact rfl); focus (intro _; (refine zIx q1 hq1 ?_); exact det_refl)
            apply w_p; (focus exact rfl); (focus exact rfl); focus (intro _; (refine zEl hxt rfl ?_); exact det_refl)
            apply w_l; (focus exact rfl); (focus exact rfl); (refine zS ?_)
            apply w_l; (focus exact rfl); (focus exact rfl); (refine zS ?_)
            refine w_nil ?_
            exact ⟨(), Wk.trans (wk_frzq 11 (Se.ts ⟨kx, bx⟩) rfl rfl (by repeat (first | exact rzs_nil | apply rzs_cons | exact rz_c | exact rz_nil rfl | apply rz_agg | exact rz_own rfl | apply rz_fn | exact rz_ptr rfl | apply rz_tup)) rfl rfl) (Wk.trans (wk_frzq 12 (Se.ts ⟨ky, by_⟩) rfl rfl (by repeat (first | exact rzs_nil | apply rzs_cons | exact rz_c | exact rz_nil rfl | apply rz_agg | exact rz_own rfl | apply rz_fn | exact rz_ptr rfl | apply rz_tup)) rfl rfl) (x_wkd 1 ⟨rfl, rfl, trivial⟩ rfl (by repeat (first | exact ag_refl | refine ag_upd rfl ?_ | refine ag_at rfl rfl ?_))))⟩
      · apply w_a; (focus exact rfl); (focus exact rfl); refine v_alloc tok rfl rfl rfl (fun _ => rfl) (fun _ => ⟨⟨_, rfl⟩, ?_⟩)
        refine w_nil ?_
        refine wtt_fork3 ?_
        refine w_nil ?_
        refine ⟨?_, ?_, ?_⟩
        · apply w_l; (focus exact rfl); (focus exact rfl); (refine zElo1 g0 ?_)
          refine w_nil ?_
          refine wtt_fork ?_
          apply w_p; (focus exact rfl); (focus exact rfl); focus (intro _; (refine zIx q1 hq1 ?_); exact det_refl)
          apply w_p; (focus exact rfl); (focus exact rfl); focus (intro _; (refine zEl hxt rfl ?_); exact det_refl)
          refine w_nil ?_
          refine ⟨?_, ?_⟩
          · apply w_l; (focus exact rfl); (focus exact rfl); (refine zElo1 g1 ?_)
            refine w_nil ?_
            refine wtt_fin ?_
            apply w_p; (focus exact rfl); (focus exact rfl); focus (intro _; (refine zIx q2 hq2 ?_); exact det_refl)
            apply w_p; (focus exact rfl); (focus exact rfl); focus (intro _; (refine zEl hyt rfl ?_); exact det_refl)
            apply w_a; (focus exact rfl); (focus exact rfl); refine v_alloc tok rfl rfl rfl (fun _ => rfl) (fun _ => ⟨⟨_, rfl⟩, ?_⟩)
            apply w_l; (focus exact rfl); (focus exact rfl); (refine zS ?_)
            apply w_l; (focus exact rfl); (focus exact rfl); (refine zS ?_)
            refine w_nil ?_
            exact ⟨(), Wk.trans (wk_frzq 11 (Se.ts ⟨kx, bx⟩) rfl rfl (by repeat (first | exact rzs_nil | apply rzs_cons | exact rz_c | exact rz_nil rfl | apply rz_agg | exact rz_own rfl | apply rz_fn | exact rz_ptr rfl | apply rz_tup)) rfl rfl) (Wk.trans (wk_frzq 12 (Se.ts ⟨ky, by_⟩) rfl rfl (by repeat (first | exact rzs_nil | apply rzs_cons | exact rz_c | exact rz_nil rfl | apply rz_agg | exact rz_own rfl | apply rz_fn | exact rz_ptr rfl | apply rz_tup)) rfl rfl) (x_wkd 1 ⟨rfl, rfl, trivial⟩ rfl (by repeat (first | exact ag_refl | refine ag_upd rfl ?_ | refine ag_at rfl rfl ?_))))⟩
          · apply w_a; (focus exact rfl); (focus exact rfl); refine v_alloc tok rfl rfl rfl (fun _ => rfl) (fun _ => ⟨⟨_, rfl⟩, ?_⟩)
            refine w_nil ?_
            refine wtt_fork ?_
            refine w_nil ?_
            refine ⟨?_, ?_⟩
            · apply w_l; (focus exact rfl); (focus exact rfl); (refine zElo1 g1 ?_)
              refine w_nil ?_
              refine wtt_fin ?_
              apply w_p; (focus exact rfl); (focus exact rfl); focus (intro _; (refine zIx q2 hq2 ?_); exact det_refl)
              apply w_p; (focus exact rfl); (focus exact rfl); focus (intro _; (refine zEl hyt rfl ?_); exact det_refl)
              apply w_l; (focus exact rfl); (focus exact rfl); (refine zS ?_)
              apply w_l; (focus exact rfl); (focus exact rfl); (refine zS ?_)
              refine w_nil ?_
              exact ⟨(), Wk.trans (wk_frzq 11 (Se.ts ⟨kx, bx⟩) rfl rfl (by repeat (first | exact rzs_nil | apply rzs_cons | exact rz_c | exact rz_nil rfl | apply rz_agg | exact rz_own rfl | apply rz_fn | exact rz_ptr rfl | apply rz_tup)) rfl rfl) (Wk.trans (wk_frzq 12 (Se.ts ⟨ky, by_⟩) rfl rfl (by repeat (first | exact rzs_nil | apply rzs_cons | exact rz_c | exact rz_nil rfl | apply rz_agg | exact rz_own rfl | apply rz_fn | exact rz_ptr rfl | apply rz_tup)) rfl rfl) (x_wkd 1 ⟨rfl, rfl, trivial⟩ rfl (by repeat (first | exact ag_refl | refine ag_upd rfl ?_ | refine ag_at rfl rfl ?_))))⟩
            · apply w_l; (focus exact rfl); (focus exact rfl); (refine zS ?_)
              refine w_nil ?_
              refine wtt_fin ?_
              apply w_l; (focus exact rfl); (focus exact rfl); (refine zElo1 g1 ?_)
              apply w_p; (focus exact rfl); (focus exact rfl); focus (intro _; (refine zIx q2 hq2 ?_); exact det_refl)
              apply w_p; (focus exact rfl); (focus exact rfl); focus (intro _; (refine zEl hyt rfl ?_); exact det_refl)
              apply w_l; (focus exact rfl); (focus exact rfl); (refine zS ?_)
              refine w_nil ?_
              exact ⟨(), Wk.trans (wk_frzq 11 (Se.ts ⟨kx, bx⟩) rfl rfl (by repeat (first | exact rzs_nil | apply rzs_cons | exact rz_c | exact rz_nil rfl | apply rz_agg | exact rz_own rfl | apply rz_fn | exact rz_ptr rfl | apply rz_tup)) rfl rfl) (Wk.trans (wk_frzq 12 (Se.ts ⟨ky, by_⟩) rfl rfl (by repeat (first | exact rzs_nil | apply rzs_cons | exact rz_c | exact rz_nil rfl | apply rz_agg | exact rz_own rfl | apply rz_fn | exact rz_ptr rfl | apply rz_tup)) rfl rfl) (x_wkd 1 ⟨rfl, rfl, trivial⟩ rfl (by repeat (first | exact ag_refl | refine ag_upd rfl ?_ | refine ag_at rfl rfl ?_))))⟩
        · apply w_l; (focus exact rfl); (focus exact rfl); (refine zElo1 g1 ?_)
          refine w_nil ?_
          refine wtt_fork ?_
          apply w_p; (focus exact rfl); (focus exact rfl); focus (intro _; (refine zIx q2 hq2 ?_); exact det_refl)
          apply w_p; (focus exact rfl); (focus exact rfl); focus (intro _; (refine zEl hyt rfl ?_); exact det_refl)
          refine w_nil ?_
          refine ⟨?_, ?_⟩
          · apply w_l; (focus exact rfl); (focus exact rfl); (refine zElo1 g0 ?_)
            refine w_nil ?_
            refine wtt_fin ?_
            apply w_p; (focus exact rfl); (focus exact rfl); focus (intro _; (refine zIx q1 hq1 ?_); exact det_refl)
            apply w_p; (focus exact rfl); (focus exact rfl); focus (intro _; (refine zEl hxt rfl ?_); exact det_refl)
            apply w_a; (focus exact rfl); (focus exact rfl); refine v_alloc tok rfl rfl rfl (fun _ => rfl) (fun _ => ⟨⟨_, rfl⟩, ?_⟩)
            apply w_l; (focus exact rfl); (focus exact rfl); (refine zS ?_)
            apply w_l; (focus exact rfl); (focus exact rfl); (refine zS ?_)
            refine w_nil ?_
            exact ⟨(), Wk.trans (wk_frzq 11 (Se.ts ⟨kx, bx⟩) rfl rfl (by repeat (first | exact rzs_nil | apply rzs_cons | exact rz_c | exact rz_nil rfl | apply rz_agg | exact rz_own rfl | apply rz_fn | exact rz_ptr rfl | apply rz_tup)) rfl rfl) (Wk.trans (wk_frzq 12 (Se.ts ⟨ky, by_⟩) rfl rfl (by repeat (first | exact rzs_nil | apply rzs_cons | exact rz_c | exact rz_nil rfl | apply rz_agg | exact rz_own rfl | apply rz_fn | exact rz_ptr rfl | apply rz_tup)) rfl rfl) (x_wkd 1 ⟨rfl, rfl, trivial⟩ rfl (by repeat (first | exact ag_refl | refine ag_upd rfl ?_ | refine ag_at rfl rfl ?_))))⟩
          · apply w_a; (focus exact rfl); (focus exact rfl); refine v_alloc tok rfl rfl rfl (fun _ => rfl) (fun _ => ⟨⟨_, rfl⟩, ?_⟩)
            refine w_nil ?_
            refine wtt_fin ?_
            apply w_l; (focus exact rfl); (focus exact rfl); (refine zElo1 g0 ?_)
            apply w_p; (focus exact rfl); (focus exact rfl); focus (intro _; (refine zIx q1 hq1 ?_); exact det_refl)
            apply w_p; (focus exact rfl); (focus exact rfl); focus (intro _; (refine zEl hxt rfl ?_); exact det_refl)
            apply w_l; (focus exact rfl); (focus exact rfl); (refine zS ?_)
            apply w_l; (focus exact rfl); (focus exact rfl); (refine zS ?_)
            refine w_nil ?_
            exact ⟨(), Wk.trans (wk_frzq 11 (Se.ts ⟨kx, bx⟩) rfl rfl (by repeat (first | exact rzs_nil | apply rzs_cons | exact rz_c | exact rz_nil rfl | apply rz_agg | exact rz_own rfl | apply rz_fn | exact rz_ptr rfl | apply rz_tup)) rfl rfl) (Wk.trans (wk_frzq 12 (Se.ts ⟨ky, by_⟩) rfl rfl (by repeat (first | exact rzs_nil | apply rzs_cons | exact rz_c | exact rz_nil rfl | apply rz_agg | exact rz_own rfl | apply rz_fn | exact rz_ptr rfl | apply rz_tup)) rfl rfl) (x_wkd 1 ⟨rfl, rfl, trivial⟩ rfl (by repeat (first | exact ag_refl | refine ag_upd rfl ?_ | refine ag_at rfl rfl ?_))))⟩
        · apply w_a; (focus exact rfl); (focus exact rfl); refine v_alloc tok rfl rfl rfl (fun _ => rfl) (fun _ => ⟨⟨_, rfl⟩, ?_⟩)
          refine w_nil ?_
          refine wtt_fork ?_
          refine w_nil ?_
          refine ⟨?_, ?_⟩
          · apply w_l; (focus exact rfl); (focus exact rfl); (refine zElo1 g0 ?_)
            refine w_nil ?_
            refine wtt_fork ?_
            apply w_p; (focus exact rfl); (focus exact rfl); focus (intro _; (refine zIx q1 hq1 ?_); exact det_refl)
            apply w_p; (focus exact rfl); (focus exact rfl); focus (intro _; (refine zEl hxt rfl ?_); exact det_refl)
            refine w_nil ?_
            refine ⟨?_, ?_⟩
            · apply w_l; (focus exact rfl); (focus exact rfl); (refine zElo1 g1 ?_)
              refine w_nil ?_
              refine wtt_fin ?_
              apply w_p; (focus exact rfl); (focus exact rfl); focus (intro _; (refine zIx q2 hq2 ?_); exact det_refl)
              apply w_p; (focus exact rfl); (focus exact rfl); focus (intro _; (refine zEl hyt rfl ?_); exact det_refl)
              apply w_l; (focus exact rfl); (focus exact rfl); (refine zS ?_)
              apply w_l; (focus exact rfl); (focus exact rfl); (refine zS ?_)
              refine w_nil ?_
              exact ⟨(), Wk.trans (wk_frzq 11 (Se.ts ⟨kx, bx⟩) rfl rfl (by repeat (first | exact rzs_nil | apply rzs_cons | exact rz_c | exact rz_nil rfl | apply rz_agg | exact rz_own rfl | apply rz_fn | exact rz_ptr rfl | apply rz_tup)) rfl rfl) (Wk.trans (wk_frzq 12 (Se.ts ⟨ky, by_⟩) rfl rfl (by repeat (first | exact rzs_nil | apply rzs_cons | exact rz_c | exact rz_nil rfl | apply rz_agg | exact rz_own rfl | apply rz_fn | exact rz_ptr rfl | apply rz_tup)) rfl rfl) (x_wkd 1 ⟨rfl, rfl, trivial⟩ rfl (by repeat (first | exact ag_refl | refine ag_upd rfl ?_ | refine ag_at rfl rfl ?_))))⟩
            · apply w_l; (focus exact rfl); (focus exact rfl); (refine zS ?_)
              refine w_nil ?_
              refine wtt_fin ?_
              apply w_l; (focus exact rfl); (focus exact rfl); (refine zElo1 g1 ?_)
              apply w_p; (focus exact rfl); (focus exact rfl); focus (intro _; (refine zIx q2 hq2 ?_); exact det_refl)
              apply w_p; (focus exact rfl); (focus exact rfl); focus (intro _; (refine zEl hyt rfl ?_); exact det_refl)
              apply w_l; (focus exact rfl); (focus exact rfl); (refine zS ?_)
              refine w_nil ?_
              exact ⟨(), Wk.trans (wk_frzq 11 (Se.ts ⟨kx, bx⟩) rfl rfl (by repeat (first | exact rzs_nil | apply rzs_cons | exact rz_c | exact rz_nil rfl | apply rz_agg | exact rz_own rfl | apply rz_fn | exact rz_ptr rfl | apply rz_tup)) rfl rfl) (Wk.trans (wk_frzq 12 (Se.ts ⟨ky, by_⟩) rfl rfl (by repeat (first | exact rzs_nil | apply rzs_cons | exact rz_c | exact rz_nil rfl | apply rz_agg | exact rz_own rfl | apply rz_fn | exact rz_ptr rfl | apply rz_tup)) rfl rfl) (x_wkd 1 ⟨rfl, rfl, trivial⟩ rfl (by repeat (first | exact ag_refl | refine ag_upd rfl ?_ | refine ag_at rfl rfl ?_))))⟩
          · apply w_l; (focus exact rfl); (focus exact rfl); (refine zElo1 g1 ?_)
            refine w_nil ?_
            refine wtt_fin ?_
            apply w_p; (focus exact rfl); (focus exact rfl); focus (intro _; (refine zIx q2 hq2 ?_); exact det_refl)
            apply w_p; (focus exact rfl); (focus exact rfl); focus (intro _; (refine zEl hyt rfl ?_); exact det_refl)
            apply w_l; (focus exact rfl); (focus exact rfl); (refine zElo1 g0 ?_)
            apply w_p; (focus exact rfl); (focus exact rfl); focus (intro _; (refine zIx q1 hq1 ?_); exact det_refl)
            apply w_p; (focus exact rfl); (focus exact rfl); focus (intro _; (refine zEl hxt rfl ?_); exact det_refl)
            apply w_l; (focus exact rfl); (focus exact rfl); (refine zS ?_)
            apply w_l; (focus exact rfl); (focus exact rfl); (refine zS ?_)
            refine w_nil ?_
            exact ⟨(), Wk.trans (wk_frzq 11 (Se.ts ⟨kx, bx⟩) rfl rfl (by repeat (first | exact rzs_nil | apply rzs_cons | exact rz_c | exact rz_nil rfl | apply rz_agg | exact rz_own rfl | apply rz_fn | exact rz_ptr rfl | apply rz_tup)) rfl rfl) (Wk.trans (wk_frzq 12 (Se.ts ⟨ky, by_⟩) rfl rfl (by repeat (first | exact rzs_nil | apply rzs_cons | exact rz_c | exact rz_nil rfl | apply rz_agg | exact rz_own rfl | apply rz_fn | exact rz_ptr rfl | apply rz_tup)) rfl rfl) (x_wkd 1 ⟨rfl, rfl, trivial⟩ rfl (by repeat (first | exact ag_refl | refine ag_upd rfl ?_ | refine ag_at rfl rfl ?_))))⟩
    repeat (refine ac_seq ?_)
    refine x_join [54, 55, 56, 57, 58, 59, 60, 61, 62, 63, 64, 65, 66, 67, 68, 69, 70, 71, 72, 73, 74, 75, 76, 77, 78, 79, 80] (fun _ : Unit => [(80, .c (.lit (.bool (!G))))]) (fun _ => [.row v 40 2 Q.length (Q.flatMap prTs)]) (fun _ => ?_) ?_
    rotate_left
    · clear hskip hadd hend hbad hstart hnx hxt hyt g0 g1 hvQ
      cases d1 : decide (kx = ky)
      · rw [d1, Bool.false_and] at hgB
        rw [hgB]
        have d1' : (!decide (kx = ky)) = true := by rw [d1]; rfl
        repeat (first | refine gG ?_ | refine zN1 (fun hlen => ?_) | refine zN2 (fun hlen => ?_) | refine zAl (fun _ => ?_) | refine zAp (fun _ => ?_))
        exact ⟨(), x_wk ⟨rfl, trivial⟩ rfl (by repeat (first | exact ag_refl | refine ag_upd rfl ?_ | refine ag_at rfl rfl ?_))⟩
      have d1' : (!decide (kx = ky)) = false := by rw [d1]; rfl
      cases d2 : decide (kx = 1)
      · cases d3 : decide (kx = 2)
        · rw [d1, d2, d3] at hgB
          simp only [Bool.not_false, Bool.true_or, Bool.and_self] at hgB
          rw [hgB]
          repeat (first | refine gG ?_ | refine zN1 (fun hlen => ?_) | refine zN2 (fun hlen => ?_) | refine zAl (fun _ => ?_) | refine zAp (fun _ => ?_))
          exact ⟨(), x_wk ⟨rfl, trivial⟩ rfl (by repeat (first | exact ag_refl | refine ag_upd rfl ?_ | refine ag_at rfl rfl ?_))⟩
        · rw [d1, d2, d3] at hgB
          simp only [Bool.not_false, Bool.true_or, Bool.not_true, Bool.false_or, Bool.true_and] at hgB
          rw [hgB]
          repeat (first | refine gG ?_ | refine zN1 (fun hlen => ?_) | refine zN2 (fun hlen => ?_) | refine zAl (fun _ => ?_) | refine zAp (fun _ => ?_))
          refine zCall (hcv1) ?_
          rintro _ rfl
          repeat (first | refine gG ?_ | refine zN1 (fun hlen => ?_) | refine zN2 (fun hlen => ?_) | refine zAl (fun _ => ?_) | refine zAp (fun _ => ?_))
          exact ⟨(), x_wk ⟨rfl, trivial⟩ rfl (by repeat (first | exact ag_refl | refine ag_upd rfl ?_ | refine ag_at rfl rfl ?_))⟩
      · have d3 : decide (kx = 2) = false := decide_eq_false (by have := of_decide_eq_true d2; omega)
        rw [d1, d2, d3] at hgB
        simp only [Bool.not_false, Bool.true_or, Bool.not_true, Bool.false_or, Bool.true_and, Bool.and_true] at hgB
        rw [hgB]
        cases c1
        · repeat (first | refine gG ?_ | refine zN1 (fun hlen => ?_) | refine zN2 (fun hlen => ?_) | refine zAl (fun _ => ?_) | refine zAp (fun _ => ?_))
          refine zCall (hcv2) ?_
          rintro _ rfl
          repeat (first | refine gG ?_ | refine zN1 (fun hlen => ?_) | refine zN2 (fun hlen => ?_) | refine zAl (fun _ => ?_) | refine zAp (fun _ => ?_))
          exact ⟨(), x_wk ⟨rfl, trivial⟩ rfl (by repeat (first | exact ag_refl | refine ag_upd rfl ?_ | refine ag_at rfl rfl ?_))⟩
        · repeat (first | refine gG ?_ | refine zN1 (fun hlen => ?_) | refine zN2 (fun hlen => ?_) | refine zAl (fun _ => ?_) | refine zAp (fun _ => ?_))
          refine zCall (hcv2) ?_
          rintro _ rfl
          repeat (first | refine gG ?_ | refine zN1 (fun hlen => ?_) | refine zN2 (fun hlen => ?_) | refine zAl (fun _ => ?_) | refine zAp (fun _ => ?_))
          exact ⟨(), x_wk ⟨rfl, trivial⟩ rfl (by repeat (first | exact ag_refl | refine ag_upd rfl ?_ | refine ag_at rfl rfl ?_))⟩
    clear hgB hcv1 hcv2 hxt hyt g0 g1 hvQ
    cases G
    · replace hbad := hbad rfl
      clear hskip hadd hend hstart hnx
      repeat (first | refine gG ?_ | refine zN1 (fun hlen => ?_) | refine zN2 (fun hlen => ?_) | refine zAl (fun _ => ?_) | refine zAp (fun _ => ?_))
      first | refine zR ?_ | refine zQ ?_
      rw [hbad]; rfl
    clear hbad
    replace hend := fun {Q' : List (Int × Int)} h => hend (Q' := Q') h rfl
    repeat (first | refine gG ?_ | refine zN1 (fun hlen => ?_) | refine zN2 (fun hlen => ?_) | refine zAl (fun _ => ?_) | refine zAp (fun _ => ?_))
    refine x_loop [9, 14, 15, 84, 85, 86, 87, 88, 89, 90, 91, 92, 93, 94, 95, 96, 97, 98, 99, 100, 101, 102, 103, 104, 105, 106, 107, 108, 109, 110] (fun q : Nat × List (Int × Int) × Value => [(84, .c (iL (q.1 : Nat))), (9, .own 0 q.2.2)]) (fun q => [.row q.2.2 40 2 q.2.1.length (q.2.1.flatMap prTs)]) (fun q => q.1 ≤ bx.length ∧ SIn a b q.2.1 i ((q1 : Nat), (q2 : Nat)) q.1) (fun q => bx.length - q.1) (0, Q, v) ⟨Nat.zero_le _, hstart⟩ ⟨rfl, rfl, trivial⟩ rfl ?_
    rintro ⟨j, Q', v'⟩ ⟨hj, hS'⟩
    dsimp only at hj hS' ⊢
    have hlen' := hS'.s.len a16 b16
    clear hstart
    repeat (first | refine gG ?_ | refine zN1 (fun hlen => ?_) | refine zN2 (fun hlen => ?_) | refine zAl (fun _ => ?_) | refine zAp (fun _ => ?_))
    refine x_cond rfl (fun h => ?_) (fun h => ?_)
    · have hj' : j < bx.length := by simpa using h
      obtain ⟨⟨m, x⟩, hz⟩ := nth hj'
      have htz := pr_at hz
      have hn := hnx m
      replace hskip := hskip hS' hz
      replace hadd := hadd hS' hz
      clear h hz hS' hend hnx
      dsimp only at hskip hadd
      generalize nxS by_ m = n at *
      have hm := hasPr_af Q' (x, n)
      cases dn : decide (n ≥ 0)
      · have hs := hskip (fun h => absurd h (of_decide_eq_false dn))
        clear hskip hadd hm
        repeat (first | refine gG ?_ | refine zN1 (fun hlen => ?_) | refine zN2 (fun hlen => ?_) | refine zAl (fun _ => ?_) | refine zAp (fun _ => ?_))
        refine zIx j hj' ?_
        repeat (first | refine gG ?_ | refine zN1 (fun hlen => ?_) | refine zN2 (fun hlen => ?_) | refine zAl (fun _ => ?_) | refine zAp (fun _ => ?_))
        refine zEl htz rfl ?_
        repeat (first | refine gG ?_ | refine zN1 (fun hlen => ?_) | refine zN2 (fun hlen => ?_) | refine zAl (fun _ => ?_) | refine zAp (fun _ => ?_))
        refine zCall (hn) ?_
        rintro _ rfl
        repeat (first | refine gG ?_ | refine zN1 (fun hlen => ?_) | refine zN2 (fun hlen => ?_) | refine zAl (fun _ => ?_) | refine zAp (fun _ => ?_))
        exact ⟨(j + 1, Q', v'), ⟨hj', hs⟩, by dsimp only; omega, x_wkd 1 ⟨rfl, rfl, trivial⟩ rfl (by repeat (first | exact ag_refl | refine ag_upd rfl ?_ | refine ag_at rfl rfl ?_))⟩
      have hn0 := of_decide_eq_true dn
      cases dm : decide ((x, n) ∈ Q')
      · rw [dm] at hm
        have hs := hadd hn0 (of_decide_eq_false dm)
        clear hskip hadd dm
        repeat (first | refine gG ?_ | refine zN1 (fun hlen => ?_) | refine zN2 (fun hlen => ?_) | refine zAl (fun _ => ?_) | refine zAp (fun _ => ?_))
        refine zIx j hj' ?_
        repeat (first | refine gG ?_ | refine zN1 (fun hlen => ?_) | refine zN2 (fun hlen => ?_) | refine zAl (fun _ => ?_) | refine zAp (fun _ => ?_))
        refine zEl htz rfl ?_
        repeat (first | refine gG ?_ | refine zN1 (fun hlen => ?_) | refine zN2 (fun hlen => ?_) | refine zAl (fun _ => ?_) | refine zAp (fun _ => ?_))
        refine zCall (hn) ?_
        rintro _ rfl
        repeat (first | refine gG ?_ | refine zN1 (fun hlen => ?_) | refine zN2 (fun hlen => ?_) | refine zAl (fun _ => ?_) | refine zAp (fun _ => ?_))
        refine zBda ?_
        repeat (first | refine gG ?_ | refine zN1 (fun hlen => ?_) | refine zN2 (fun hlen => ?_) | refine zAl (fun _ => ?_) | refine zAp (fun _ => ?_))
        refine zPeek (hm) ?_
        rintro _ rfl
        refine ⟨rfl, ?_⟩
        repeat (first | refine gG ?_ | refine zN1 (fun hlen => ?_) | refine zN2 (fun hlen => ?_) | refine zAl (fun _ => ?_) | refine zAp (fun _ => ?_))
        refine zBda ?_
        repeat (first | refine gG ?_ | refine zN1 (fun hlen => ?_) | refine zN2 (fun hlen => ?_) | refine zAl (fun _ => ?_) | refine zAp (fun _ => ?_))
        exact ⟨(j + 1, Q' ++ [(x, n)], _), ⟨hj', hs⟩, by dsimp only; omega, x_wkd 1 ⟨rfl, rfl, trivial⟩ (by simp only [List.length_append, List.flatMap_append]; rfl) (by repeat (first | exact ag_refl | refine ag_upd rfl ?_ | refine ag_at rfl rfl ?_))⟩
      · rw [dm] at hm
        have hs := hskip (fun _ => of_decide_eq_true dm)
        clear hskip hadd dm
        repeat (first | refine gG ?_ | refine zN1 (fun hlen => ?_) | refine zN2 (fun hlen => ?_) | refine zAl (fun _ => ?_) | refine zAp (fun _ => ?_))
        refine zIx j hj' ?_
        repeat (first | refine gG ?_ | refine zN1 (fun hlen => ?_) | refine zN2 (fun hlen => ?_) | refine zAl (fun _ => ?_) | refine zAp (fun _ => ?_))
        refine zEl htz rfl ?_
        repeat (first | refine gG ?_ | refine zN1 (fun hlen => ?_) | refine zN2 (fun hlen => ?_) | refine zAl (fun _ => ?_) | refine zAp (fun _ => ?_))
        refine zCall (hn) ?_
        rintro _ rfl
        repeat (first | refine gG ?_ | refine zN1 (fun hlen => ?_) | refine zN2 (fun hlen => ?_) | refine zAl (fun _ => ?_) | refine zAp (fun _ => ?_))
        refine zBda ?_
        repeat (first | refine gG ?_ | refine zN1 (fun hlen => ?_) | refine zN2 (fun hlen => ?_) | refine zAl (fun _ => ?_) | refine zAp (fun _ => ?_))
        refine zPeek (hm) ?_
        rintro _ rfl
        refine ⟨rfl, ?_⟩
        repeat (first | refine gG ?_ | refine zN1 (fun hlen => ?_) | refine zN2 (fun hlen => ?_) | refine zAl (fun _ => ?_) | refine zAp (fun _ => ?_))
        exact ⟨(j + 1, Q', v'), ⟨hj', hs⟩, by dsimp only; omega, x_wkd 1 ⟨rfl, rfl, trivial⟩ rfl (by repeat (first | exact ag_refl | refine ag_upd rfl ?_ | refine ag_at rfl rfl ?_))⟩
    · have hj' : j = bx.length := by have : ¬ j < bx.length := by simpa using h
                                     omega
      subst hj'
      replace hend := hend hS'
      have hlt := (List.getElem?_eq_some_iff.1 hS'.at_).1
      clear h hS' hnx hskip hadd
      repeat (first | refine gG ?_ | refine zN1 (fun hlen => ?_) | refine zN2 (fun hlen => ?_) | refine zAl (fun _ => ?_) | refine zAp (fun _ => ?_))
      exact ⟨(i + 1, Q', v'), ⟨by dsimp only; omega, hend⟩, by dsimp only; omega, x_wkd 1 ⟨rfl, rfl, trivial⟩ rfl (by repeat (first | exact ag_refl | refine ag_upd rfl ?_ | refine ag_at rfl rfl ?_))⟩
  · have hi' : i = Q.length := by have : ¬ i < Q.length := by simpa using h
                                  omega
    subst hi'
    have hend := sinv_end hS
    clear h hS hi hi9 hlen
    repeat (first | refine gG ?_ | refine zN1 (fun hlen => ?_) | refine zN2 (fun hlen => ?_) | refine zAl (fun _ => ?_) | refine zAp (fun _ => ?_))
    first | refine zR ?_ | refine zQ ?_
    rw [hend]; rfl
end Go.Proofs.YthloejmmgdjimaaDoor
