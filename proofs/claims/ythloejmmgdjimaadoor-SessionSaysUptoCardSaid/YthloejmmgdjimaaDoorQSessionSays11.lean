/-
  Texts of this proof, part 11: Ysn Yso Ysp.
-/
import Derived.Test.YthloejmmgdjimaaDoorQSessionSays10
import Derived.Lib.AppendStr
import Derived.Lib.AppendZerosOnto
import Derived.Lib.MinMax
import Derived.WideKeyEntry
namespace Go.Proofs.YthloejmmgdjimaaDoor
open Go.RowKit
/-- rows alike, element by element -/
def alP {α : Type} (p : α → α → Bool) : List α → List α → Bool
  | [], [] => true
  | a :: l, b :: m => p a b && alP p l m
  | _, _ => false
theorem alB_alP (c : List Int) : ∀ l m, alB c l m = alP (fun x y : Int × Int => decide (x.1 = y.1) && decide (clsAt c x.2 = clsAt c y.2)) l m
  | [], [] => rfl
  | _ :: l, _ :: m => by simp only [alB, alP, alB_alP c l m]
  | [], _ :: _ => rfl
  | _ :: _, [] => rfl
theorem alP_len {α : Type} {p : α → α → Bool} : ∀ {l m : List α}, l.length ≠ m.length → alP p l m = false
  | [], [], h => absurd rfl h
  | _ :: l, _ :: m, h => by
    have h1 : l.length ≠ m.length := fun e => h (by simp [e])
    rw [alP, alP_len h1, Bool.and_false]
  | [], _ :: _, _ => rfl
  | _ :: _, [], _ => rfl
theorem alP_drop {α : Type} {p : α → α → Bool} {l m : List α} {k : Nat} {a b : α} (ha : l[k]? = some a) (hb : m[k]? = some b) : alP p (l.drop k) (m.drop k) = (p a b && alP p (l.drop (k + 1)) (m.drop (k + 1))) := by
  obtain ⟨h1, rfl⟩ := List.getElem?_eq_some_iff.1 ha
  obtain ⟨h2, rfl⟩ := List.getElem?_eq_some_iff.1 hb
  rw [List.drop_eq_getElem_cons h1, List.drop_eq_getElem_cons h2]
  rfl
set_option maxRecDepth 100000 in
set_option maxHeartbeats 2000000 in
theorem eqBr_af (p : Int × Int → Int × Int → Bool) (f : FuncId) (cap : List T) (a b : List (Int × Int)) (hf : ∀ x ∈ a, ∀ y ∈ b, AF Tryd.prog f (.agg (prTs x) :: .agg (prTs y) :: cap) (· = .lit (.bool (p x y)))) :
    AF Tryd.prog 37 [.row a.length 2 (a.flatMap prTs), .row b.length 2 (b.flatMap prTs), .fn (.func f) cap] (· = .lit (.bool (alP p a b))) := by
  cases d0 : decide (((a.length : Nat) : Int) = ((b.length : Nat) : Int))
  · have hne : alP p a b = false := alP_len fun e => by
      have := of_decide_eq_false d0
      omega
    rw [hne]
    have d0' : (!decide (((a.length : Nat) : Int) = ((b.length : Nat) : Int))) = true := by rw [d0]; rfl
    refine af_enter tok Tryd.func37 Tryd.ntmps37 Tryd.results37 rfl (by kernel_rfl) rfl rfl fun F hX => ?_
    repeat (first | refine gG ?_ | refine zN1 (fun hlen => ?_) | refine zN2 (fun hlen => ?_) | refine zAl (fun _ => ?_))
    first | refine zR ?_ | refine zQ ?_
    rfl
  have hab : a.length = b.length := by have := of_decide_eq_true d0; omega
  have d0' : (!decide (((a.length : Nat) : Int) = ((b.length : Nat) : Int))) = false := by rw [d0]; rfl
  clear d0
  generalize hR : alP p a b = r
  refine af_enter tok Tryd.func37 Tryd.ntmps37 Tryd.results37 rfl (by kernel_rfl) rfl rfl fun F hX => ?_
  repeat (first | refine gG ?_ | refine zN1 (fun hlen => ?_) | refine zN2 (fun hlen => ?_) | refine zAl (fun _ => ?_))
  refine x_loop [6, 7, 8, 9, 17, 18, 19, 20, 21, 22, 23, 24, 25, 26, 27, 28, 29, 30, 31] (fun k : Nat => [(17, .c (iL (k : Nat)))]) (fun _ => []) (fun k => k ≤ a.length ∧ alP p (a.drop k) (b.drop k) = r) (fun k => a.length - k) 0 ⟨Nat.zero_le _, hR⟩ ⟨rfl, trivial⟩ rfl ?_
  clear hR
  rintro k ⟨hk, he⟩
  repeat (first | refine gG ?_ | refine zN1 (fun hlen => ?_) | refine zN2 (fun hlen => ?_) | refine zAl (fun _ => ?_))
  refine x_cond rfl (fun h => ?_) (fun h => ?_)
  · have hk' : k < a.length := by simpa using h
    have hkb : k < b.length := by omega
    obtain ⟨x, hx⟩ := nth hk'
    obtain ⟨y, hy⟩ := nth hkb
    have hxt := pr_at hx
    have hyt := pr_at hy
    have hc := hf x (List.mem_of_getElem? hx) y (List.mem_of_getElem? hy)
    rw [alP_drop hx hy] at he
    clear h hf hx hy
    repeat (first | refine gG ?_ | refine zN1 (fun hlen => ?_) | refine zN2 (fun hlen => ?_) | refine zAl (fun _ => ?_))
    refine zIx k hk' ?_
    repeat (first | refine gG ?_ | refine zN1 (fun hlen => ?_) | refine zN2 (fun hlen => ?_) | refine zAl (fun _ => ?_))
    refine zEl hxt rfl ?_
    repeat (first | refine gG ?_ | refine zN1 (fun hlen => ?_) | refine zN2 (fun hlen => ?_) | refine zAl (fun _ => ?_))
    refine zIx k hkb ?_
    repeat (first | refine gG ?_ | refine zN1 (fun hlen => ?_) | refine zN2 (fun hlen => ?_) | refine zAl (fun _ => ?_))
    refine zEl hyt rfl ?_
    repeat (first | refine gG ?_ | refine zN1 (fun hlen => ?_) | refine zN2 (fun hlen => ?_) | refine zAl (fun _ => ?_))
    refine v_callc hc rfl (rzs_cons (rz_agg (rzs_cons rz_c (rzs_cons rz_c rzs_nil))) (rzs_cons (rz_agg (rzs_cons rz_c (rzs_cons rz_c rzs_nil))) rzs_self)) ?_
    rintro _ rfl
    cases d1 : p x y
    · rw [d1, Bool.false_and] at he
      subst he
      repeat (first | refine gG ?_ | refine zN1 (fun hlen => ?_) | refine zN2 (fun hlen => ?_) | refine zAl (fun _ => ?_))
      first | refine zR ?_ | refine zQ ?_
      rfl
    · rw [d1, Bool.true_and] at he
      repeat (first | refine gG ?_ | refine zN1 (fun hlen => ?_) | refine zN2 (fun hlen => ?_) | refine zAl (fun _ => ?_))
      exact ⟨k + 1, ⟨hk', he⟩, by omega, x_wkd 0 ⟨rfl, trivial⟩ rfl (by repeat (first | exact ag_refl | refine ag_upd rfl ?_ | refine ag_at rfl rfl ?_))⟩
  · have hk' : k = a.length := by have : ¬ k < a.length := by simpa using h
                                  omega
    subst hk'
    rw [List.drop_length, hab, List.drop_length] at he
    subst he
    repeat (first | refine gG ?_ | refine zN1 (fun hlen => ?_) | refine zN2 (fun hlen => ?_) | refine zAl (fun _ => ?_))
    first | refine zR ?_ | refine zQ ?_
    rfl
theorem cls_get {c : List Int} {i : Int} {n : Nat} (hi : i = (n : Int)) (hn : n < c.length) : (c.flatMap intTs)[n * 1]? = some (iL (clsAt c i)) := by
  subst hi
  obtain ⟨a, ha⟩ := nth hn
  rw [show clsAt c (n : Nat) = a by unfold clsAt; rw [Int.toNat_natCast, ha]; rfl]
  exact int_at ha
set_option maxRecDepth 100000 in
set_option maxHeartbeats 2000000 in
theorem apart1_af (c : List Int) (x y : Int × Int) (hx : 0 ≤ x.2 ∧ x.2 < (c.length : Nat)) (hy : 0 ≤ y.2 ∧ y.2 < (c.length : Nat)) : AF Tryd.prog 38 [.agg (prTs x), .agg (prTs y), .pin [intRow c] 0] (· = .lit (.bool (decide (x.1 = y.1) && decide (clsAt c x.2 = clsAt c y.2)))) := by
  obtain ⟨x1, x2⟩ := x
  obtain ⟨y1, y2⟩ := y
  dsimp only at hx hy
  obtain ⟨a, rfl⟩ : ∃ n : Nat, x2 = (n : Int) := ⟨x2.toNat, by omega⟩
  obtain ⟨b, rfl⟩ : ∃ n : Nat, y2 = (n : Int) := ⟨y2.toNat, by omega⟩
  have ha : a < c.length := by omega
  have hb : b < c.length := by omega
  have ga := cls_get rfl ha
  have gb := cls_get rfl hb
  dsimp only
  generalize clsAt c (a : Nat) = u at *
  generalize clsAt c (b : Nat) = v at *
  cases d1 : decide (x1 = y1)
  · refine af_enter tok Tryd.func38 Tryd.ntmps38 Tryd.results38 rfl (by kernel_rfl) rfl rfl fun F hX => ?_
    repeat (first | refine gG ?_ | refine zBf ?_)
    refine ac_draw [1, 1, 1, 1, 1, 1, 1, 1, 1, 1, 1, 1, 1, 1, 1, 1, 1, 1, 1] [0, 1, 2, 3, 4, 5, 6, 7, 8, 9, 10, 11, 12, 13, 14, 15, 16, 17, 18] (by kernel_rfl) (by kernel_rfl) ?_
    refine gW ?_
    refine w_nil ?_
    repeat (first | refine gG ?_ | refine zBf ?_)
    first | refine zR ?_ | refine zQ ?_
    rfl
  · refine af_enter tok Tryd.func38 Tryd.ntmps38 Tryd.results38 rfl (by kernel_rfl) rfl rfl fun F hX => ?_
    repeat (first | refine gG ?_ | refine zBf ?_)
    refine ac_draw [1, 1, 1, 1, 1, 1, 1, 1, 1, 1, 1, 1, 1, 1, 1, 1, 1, 1, 1] [0, 1, 2, 3, 4, 5, 6, 7, 8, 9, 10, 11, 12, 13, 14, 15, 16, 17, 18] (by kernel_rfl) (by kernel_rfl) ?_
    refine gW ?_
    try (first | (apply w_un; (focus exact rfl); (focus exact rfl); (focus exact rfl); (focus exact rfl)) | (apply w_no; (focus exact rfl); (focus exact rfl); (focus exact rfl); (focus exact rfl); focus (first | rfl | assumption | exact neg_t (by assumption) | exact neg_f (by assumption))) | (apply w_qg; (focus exact rfl); (focus exact rfl); (focus exact rfl); (focus exact rfl); (focus (first | rfl | assumption | exact neg_t (by assumption) | exact neg_f (by assumption))); (focus (intro _; (refine zIx a ha ?_); exact det_refl))))
    (first | (apply w_un; (focus exact rfl); (focus exact rfl); (focus exact rfl); (focus exact rfl)) | (apply w_no; (focus exact rfl); (focus exact rfl); (focus exact rfl); (focus exact rfl); focus (first | rfl | assumption | exact neg_t (by assumption) | exact neg_f (by assumption))) | (apply w_qg; (focus exact rfl); (focus exact rfl); (focus exact rfl); (focus exact rfl); (focus (first | rfl | assumption | exact neg_t (by assumption) | exact neg_f (by assumption))); (focus (intro _; (refine zEl1 ga ?_); exact det_refl))))
    try refine gW ?_
    try (first | (apply w_un; (focus exact rfl); (focus exact rfl); (focus exact rfl); (focus exact rfl)) | (apply w_no; (focus exact rfl); (focus exact rfl); (focus exact rfl); (focus exact rfl); focus (first | rfl | assumption | exact neg_t (by assumption) | exact neg_f (by assumption))) | (apply w_qg; (focus exact rfl); (focus exact rfl); (focus exact rfl); (focus exact rfl); (focus (first | rfl | assumption | exact neg_t (by assumption) | exact neg_f (by assumption))); (focus (intro _; (refine zIx b hb ?_); exact det_refl))))
    (first | (apply w_un; (focus exact rfl); (focus exact rfl); (focus exact rfl); (focus exact rfl)) | (apply w_no; (focus exact rfl); (focus exact rfl); (focus exact rfl); (focus exact rfl); focus (first | rfl | assumption | exact neg_t (by assumption) | exact neg_f (by assumption))) | (apply w_qg; (focus exact rfl); (focus exact rfl); (focus exact rfl); (focus exact rfl); (focus (first | rfl | assumption | exact neg_t (by assumption) | exact neg_f (by assumption))); (focus (intro _; (refine zEl1 gb ?_); exact det_refl))))
    try refine gW ?_
    refine w_nil ?_
    repeat (first | refine gG ?_ | refine zBf ?_)
    first | refine zR ?_ | refine zQ ?_
    rfl
set_option maxRecDepth 100000 in
set_option maxHeartbeats 2000000 in
theorem apart_af (l : List Se) (hl : LOk l) (c : List Int) (hc : c.length = l.length) (i j : Nat) (hi : i < l.length) (hj : j < l.length) : AF Tryd.prog 31 [seRow l, intRow c, iL (i : Nat), iL (j : Nat)] (· = .lit (.bool (apB l c (i : Nat) (j : Nat)))) := by
  obtain ⟨si, hsi, ei⟩ : ∃ s, l[i]? = some s ∧ stAt l (i : Nat) = s := by
    obtain ⟨s, hs⟩ := nth hi
    exact ⟨s, hs, stAt_nat hs⟩
  obtain ⟨sj, hsj, ej⟩ : ∃ s, l[j]? = some s ∧ stAt l (j : Nat) = s := by
    obtain ⟨s, hs⟩ := nth hj
    exact ⟨s, hs, stAt_nat hs⟩
  have oi := hl.st _ (List.mem_of_getElem? hsi)
  have oj := hl.st _ (List.mem_of_getElem? hsj)
  have he := eqBr_af (fun x y : Int × Int => decide (x.1 = y.1) && decide (clsAt c x.2 = clsAt c y.2)) 38 [.pin [intRow c] 0] si.br sj.br (fun x hx y hy => apart1_af c x y (by have := oi.rng x hx; omega) (by have := oj.rng y hy; omega))
  rw [← alB_alP] at he
  have ki : (l.flatMap Se.ts)[i * 2 + 0]? = some (iL si.kind) := flat_get Se.ts 2 (fun _ => rfl) hsi (j := 0) (by omega)
  have bi : (l.flatMap Se.ts)[i * 2 + 1]? = some (.row si.br.length 2 (si.br.flatMap prTs)) := flat_get Se.ts 2 (fun _ => rfl) hsi (j := 1) (by omega)
  have kj : (l.flatMap Se.ts)[j * 2 + 0]? = some (iL sj.kind) := flat_get Se.ts 2 (fun _ => rfl) hsj (j := 0) (by omega)
  have bj : (l.flatMap Se.ts)[j * 2 + 1]? = some (.row sj.br.length 2 (sj.br.flatMap prTs)) := flat_get Se.ts 2 (fun _ => rfl) hsj (j := 1) (by omega)
  unfold apB
  rw [ei, ej]
  clear ei ej hsi hsj oi oj hl
  obtain ⟨kx, bx⟩ := si
  obtain ⟨ky, by_⟩ := sj
  dsimp only at *
  generalize alB c bx by_ = z at *
  cases d1 : decide (kx = ky)
  · refine af_enter tok Tryd.func31 Tryd.ntmps31 Tryd.results31 rfl (by kernel_rfl) rfl rfl fun F hX => ?_
    repeat (first | refine gG ?_ | refine zBf ?_)
    refine ac_drawB [0, 0, 3, 7, 15, 0, 0, 96, 224, 480, 1023, 2047, 4095, 4095, 16383, 32767, 65535, 4095, 4095, 397311, 921599, 1970175, 4095, 8388607, 16777215, 33554431] [1, 1, 1, 1, 1, 1, 1, 1, 1, 1, 1, 1, 1, 1, 1, 1, 1, 1, 1, 1, 1, 1, 1, 1, 1, 1] [0, 1, 2, 3, 4, 5, 6, 7, 8, 9, 10, 11, 12, 13, 14, 15, 16, 17, 18, 19, 20, 21, 22, 23, 24, 25] (by kernel_rfl) (by kernel_rfl) ?_
    refine gW ?_
    apply w_q; (focus exact rfl); (focus exact rfl); focus (intro _; (refine zIx i hi ?_); exact det_refl)
    refine gW ?_
    apply w_q; (focus exact rfl); (focus exact rfl); focus (intro _; (refine zEl1 ki ?_); exact det_refl)
    refine gW ?_
    apply w_q; (focus exact rfl); (focus exact rfl); focus (intro _; (refine zIx j hj ?_); exact det_refl)
    refine gW ?_
    apply w_q; (focus exact rfl); (focus exact rfl); focus (intro _; (refine zEl1 kj ?_); exact det_refl)
    refine gW ?_
    refine w_nil ?_
    repeat (first | refine gG ?_ | refine zBf ?_)
    first | refine zR ?_ | refine zQ ?_
    rfl
  · refine af_enter tok Tryd.func31 Tryd.ntmps31 Tryd.results31 rfl (by kernel_rfl) rfl rfl fun F hX => ?_
    repeat (first | refine gG ?_ | refine zBf ?_)
    refine ac_drawB [0, 0, 3, 7, 15, 0, 0, 96, 224, 480, 1023, 2047, 4095, 4095, 16383, 32767, 65535, 4095, 4095, 397311, 921599, 1970175, 4095, 8388607, 16777215, 33554431] [1, 1, 1, 1, 1, 1, 1, 1, 1, 1, 1, 1, 1, 1, 1, 1, 1, 1, 1, 1, 1, 1, 1, 1, 1, 1] [0, 1, 2, 3, 4, 5, 6, 7, 8, 9, 10, 11, 12, 13, 14, 15, 16, 17, 18, 19, 20, 21, 22, 23, 24, 25] (by kernel_rfl) (by kernel_rfl) ?_
    refine gW ?_
    apply w_q; (focus exact rfl); (focus exact rfl); focus (intro _; (refine zIx i hi ?_); exact det_refl)
    refine gW ?_
    apply w_q; (focus exact rfl); (focus exact rfl); focus (intro _; (refine zEl1 ki ?_); exact det_refl)
    refine gW ?_
    apply w_q; (focus exact rfl); (focus exact rfl); focus (intro _; (refine zIx j hj ?_); exact det_refl)
    refine gW ?_
    apply w_q; (focus exact rfl); (focus exact rfl); focus (intro _; (refine zEl1 kj ?_); exact det_refl)
    refine gW ?_
    try (first | (apply w_un; (focus exact rfl); (focus exact rfl); (focus exact rfl); (focus exact rfl)) | (apply w_no; (focus exact rfl); (focus exact rfl); (focus exact rfl); (focus exact rfl); focus (first | rfl | assumption | exact neg_t (by assumption) | exact neg_f (by assumption))) | (apply w_qg; (focus exact rfl); (focus exact rfl); (focus exact rfl); (focus exact rfl); (focus (first | rfl | assumption | exact neg_t (by assumption) | exact neg_f (by assumption))); (focus (intro _; (refine zIx i hi ?_); exact det_refl))))
    try refine gW ?_
    try (first | (apply w_un; (focus exact rfl); (focus exact rfl); (focus exact rfl); (focus exact rfl)) | (apply w_no; (focus exact rfl); (focus exact rfl); (focus exact rfl); (focus exact rfl); focus (first | rfl | assumption | exact neg_t (by assumption) | exact neg_f (by assumption))) | (apply w_qg; (focus exact rfl); (focus exact rfl); (focus exact rfl); (focus exact rfl); (focus (first | rfl | assumption | exact neg_t (by assumption) | exact neg_f (by assumption))); (focus (intro _; (refine zEl1 bi ?_); exact det_refl))))
    try refine gW ?_
    try (first | (apply w_un; (focus exact rfl); (focus exact rfl); (focus exact rfl); (focus exact rfl)) | (apply w_no; (focus exact rfl); (focus exact rfl); (focus exact rfl); (focus exact rfl); focus (first | rfl | assumption | exact neg_t (by assumption) | exact neg_f (by assumption))) | (apply w_qg; (focus exact rfl); (focus exact rfl); (focus exact rfl); (focus exact rfl); (focus (first | rfl | assumption | exact neg_t (by assumption) | exact neg_f (by assumption))); (focus (intro _; (refine zIx j hj ?_); exact det_refl))))
    try refine gW ?_
    try (first | (apply w_un; (focus exact rfl); (focus exact rfl); (focus exact rfl); (focus exact rfl)) | (apply w_no; (focus exact rfl); (focus exact rfl); (focus exact rfl); (focus exact rfl); focus (first | rfl | assumption | exact neg_t (by assumption) | exact neg_f (by assumption))) | (apply w_qg; (focus exact rfl); (focus exact rfl); (focus exact rfl); (focus exact rfl); (focus (first | rfl | assumption | exact neg_t (by assumption) | exact neg_f (by assumption))); (focus (intro _; (refine zEl1 bj ?_); exact det_refl))))
    try refine gW ?_
    try (first | (apply w_un; (focus exact rfl); (focus exact rfl); (focus exact rfl); (focus exact rfl)) | (apply w_no; (focus exact rfl); (focus exact rfl); (focus exact rfl); (focus exact rfl); focus (first | rfl | assumption | exact neg_t (by assumption) | exact neg_f (by assumption))) | (apply w_qg; (focus exact rfl); (focus exact rfl); (focus exact rfl); (focus exact rfl); (focus (first | rfl | assumption | exact neg_t (by assumption) | exact neg_f (by assumption))); (focus (intro _; (refine zCall he ?_; rintro _ rfl); exact det_refl))))
    try refine gW ?_
    refine w_nil ?_
    repeat (first | refine gG ?_ | refine zBf ?_)
    first | refine zR ?_ | refine zQ ?_
    rfl
set_option maxRecDepth 100000 in
set_option maxHeartbeats 2000000 in
theorem classes1_af (l : List Se) (hl : LOk l) (c : List Int) (hc : c.length = l.length) (i j : Nat) (hi : i < l.length) (hj : j < l.length) : AF Tryd.prog 30 [iL (j : Nat), .pin [seRow l] 0, .pin [intRow c] 0, .pin [iL (i : Nat)] 0] (· = .lit (.bool (apB l c (i : Nat) (j : Nat)))) := by
  have h := apart_af l hl c hc i j hi hj
  generalize apB l c (i : Nat) (j : Nat) = z at *
  refine af_enter tok Tryd.func30 Tryd.ntmps30 Tryd.results30 rfl (by kernel_rfl) rfl rfl fun F hX => ?_
  repeat (first | refine gG ?_)
  refine zCall (h) ?_
  rintro _ rfl
  repeat (first | refine gG ?_)
  first | refine zR ?_ | refine zQ ?_
  rfl
end Go.Proofs.YthloejmmgdjimaaDoor
namespace Go.Proofs.YthloejmmgdjimaaDoor
open Go.RowKit
theorem subE_swap {a b : List Se} (h : subE a b = 0) : subE b a = 0 := by
  unfold subE at h ⊢
  split at h
  · rename_i h1; exact absurd h h1
  · rename_i h1
    rw [if_neg (fun h2 => h2 h)]
    exact Classical.not_not.1 h1
set_option maxRecDepth 100000 in
set_option maxHeartbeats 2000000 in
theorem same_af (a b : List Se) : AF Tryd.prog 8 [seRow a, seRow b] (· = .tup [.lit (.bool (decide (subE a b = 0) && (subB a b && subB b a))), iL (subE a b)]) := by
  have h1 := sub_af a b
  have h2 := sub_af b a
  by_cases he : subE a b = 0
  rotate_left
  · rw [decide_eq_false he, Bool.false_and] at h1 ⊢
    generalize subE a b = e at *
    have d1 : (!decide (e = 0)) = true := by rw [decide_eq_false he]; rfl
    refine af_enter tok Tryd.func8 Tryd.ntmps8 Tryd.results8 rfl (by kernel_rfl) rfl rfl fun F hX => ?_
    repeat (first | refine gG ?_)
    refine zCall (h1) ?_
    rintro _ rfl
    repeat (first | refine gG ?_)
    first | refine zR ?_ | refine zQ ?_
    rfl
  rw [subE_swap he, decide_eq_true rfl, Bool.true_and] at h2
  rw [he, decide_eq_true rfl, Bool.true_and] at h1 ⊢
  generalize subB a b = x at *
  generalize subB b a = y at *
  clear he
  cases x
  · refine af_enter tok Tryd.func8 Tryd.ntmps8 Tryd.results8 rfl (by kernel_rfl) rfl rfl fun F hX => ?_
    repeat (first | refine gG ?_)
    refine zCall (h1) ?_
    rintro _ rfl
    repeat (first | refine gG ?_)
    refine zCall (h2) ?_
    rintro _ rfl
    repeat (first | refine gG ?_)
    first | refine zR ?_ | refine zQ ?_
    rfl
  · refine af_enter tok Tryd.func8 Tryd.ntmps8 Tryd.results8 rfl (by kernel_rfl) rfl rfl fun F hX => ?_
    repeat (first | refine gG ?_)
    refine zCall (h1) ?_
    rintro _ rfl
    repeat (first | refine gG ?_)
    refine zCall (h2) ?_
    rintro _ rfl
    repeat (first | refine gG ?_)
    first | refine zR ?_ | refine zQ ?_
    rfl
set_option maxRecDepth 100000 in
set_option maxHeartbeats 1000000 in
theorem idxIntF_af (p : Int → Bool) (f : FuncId) (cap : List T) (l : List Int) (hf : ∀ a ∈ l, AF Tryd.prog f ((intTs a).headD (.lit undef) :: cap) (· = .lit (.bool (p a)))) :
    AF Tryd.prog 26 [.row l.length 1 (l.flatMap intTs), .fn (.func f) cap] (· = .lit (.int .i64 (idxI p l))) := by
  refine af_enter tok Tryd.func26 Tryd.ntmps26 Tryd.results26 rfl (by kernel_rfl) rfl rfl fun F hX => ?_
  repeat (first | refine gG ?_ | refine zN1 (fun hlen => ?_) | refine zN2 (fun hlen => ?_))
  refine x_loop [4, 5, 8, 9, 10, 11, 12, 13, 14, 15, 16, 17, 18] (fun k : Nat => [(8, .c (.lit (.int .i64 k)))]) (fun _ => []) (fun k => k ≤ l.length ∧ idxAt p l k) (fun k => l.length - k) 0 ⟨Nat.zero_le _, idxAt_zero p l⟩ ⟨rfl, trivial⟩ rfl fun k hk => ?_
  repeat (first | refine gG ?_ | refine zN1 (fun hlen => ?_) | refine zN2 (fun hlen => ?_))
  refine x_cond rfl (fun h => ?_) (fun h => ?_)
  · have hk' : k < l.length := by simpa using h
    obtain ⟨a, ha⟩ := nth hk'
    have hs := hf a (List.mem_of_getElem? ha)
    repeat (first | refine gG ?_ | refine zN1 (fun hlen => ?_) | refine zN2 (fun hlen => ?_))
    refine lo_idx tok k rfl rfl rfl hk' rfl rfl rfl rfl ?_
    repeat (first | refine gG ?_ | refine zN1 (fun hlen => ?_) | refine zN2 (fun hlen => ?_))
    refine lo_load_pin1 tok rfl rfl rfl (int_at ha) ?_
    repeat (first | refine gG ?_ | refine zN1 (fun hlen => ?_) | refine zN2 (fun hlen => ?_))
    refine v_callc hs rfl (by first | exact rzs_cons rz_c rzs_self | (repeat (first | exact rzs_nil | apply rzs_cons | exact rz_c | exact rz_nil rfl | apply rz_agg | exact rz_own rfl | apply rz_fn | exact rz_ptr rfl | apply rz_tup))) ?_
    rintro _ rfl
    cases hp : p a
    · repeat (first | refine gG ?_ | refine zN1 (fun hlen => ?_) | refine zN2 (fun hlen => ?_))
      exact ⟨k + 1, ⟨hk', idxAt_no hk.2 ha hp⟩, by omega, x_wkd 0 ⟨rfl, trivial⟩ rfl (by repeat (first | exact ag_refl | refine ag_upd rfl ?_ | refine ag_at rfl rfl ?_))⟩
    · repeat (first | refine gG ?_ | refine zN1 (fun hlen => ?_) | refine zN2 (fun hlen => ?_))
      first | refine zR ?_ | refine zQ ?_
      rw [idxAt_yes hk.2 ha hp]; rfl
  · have hk' : k = l.length := by have : ¬ k < l.length := by simpa using h
                                  omega
    subst hk'
    repeat (first | refine gG ?_ | refine zN1 (fun hlen => ?_) | refine zN2 (fun hlen => ?_))
    first | refine zR ?_ | refine zQ ?_
    rw [idxAt_end hk.2]; rfl
theorem ints_map (l : List Int) : l.flatMap intTs = l.map iL := by
  induction l with
  | nil => rfl
  | cons a l ih => rw [List.flatMap_cons, ih]; rfl
theorem ints_len (l : List Int) : (l.flatMap intTs).length = l.length := by rw [ints_map, List.length_map]
theorem rep_ints (n : Nat) : (List.replicate n [iL 0]).flatten = (List.replicate n (0 : Int)).flatMap intTs := by
  rw [ints_map, List.map_replicate]
  induction n with
  | zero => rfl
  | succ n ih => rw [List.replicate_succ, List.replicate_succ, List.flatten_cons, ih]; rfl
/-- the numbers given, and zeros behind them -/
def padL (d : List Int) (n : Nat) : List Int := d ++ List.replicate (n - d.length) 0
theorem pad_len {d : List Int} {n : Nat} (h : d.length ≤ n) : (padL d n).length = n := by
  unfold padL
  rw [List.length_append, List.length_replicate]
  omega
theorem set_mid {α : Type} (x y : α) (B : List α) : ∀ A : List α, (A ++ x :: B).take A.length ++ [y] ++ (A ++ x :: B).drop (A.length + 1) = A ++ y :: B
  | [] => by simp
  | a :: A => by
    have := set_mid x y B A
    simp only [List.cons_append, List.length_cons, List.take_succ_cons, List.drop_succ_cons]
    rw [this]
theorem pad_spl {d : List Int} {n : Nat} (h : d.length < n) (k : Int) : spl ((padL d n).flatMap intTs) (d.length * 1) [iL k] = (padL (d ++ [k]) n).flatMap intTs := by
  have hl : (padL d n).length = n := pad_len (by omega)
  rw [spl_eq _ _ _ (by rw [ints_len, hl]; simp only [List.length_cons, List.length_nil]; omega), ints_map, ints_map, Nat.mul_one]
  unfold padL
  obtain ⟨m, hm⟩ : ∃ m, n - d.length = m + 1 := ⟨n - d.length - 1, by omega⟩
  rw [hm, show n - (d ++ [k]).length = m by rw [List.length_append]; simp only [List.length_cons, List.length_nil]; omega, List.replicate_succ]
  have := set_mid (iL 0) (iL k) (List.replicate m (iL 0)) (d.map iL)
  rw [List.length_map] at this
  simpa using this
theorem idxI_some {α : Type} {p : α → Bool} {l : List α} {k : Nat} (h : l.findIdx? p = some k) : idxI p l = (k : Int) := by unfold idxI; rw [h]
theorem idxI_none {α : Type} {p : α → Bool} {l : List α} (h : l.findIdx? p = none) : idxI p l = -1 := by unfold idxI; rw [h]
set_option maxRecDepth 100000 in
set_option maxHeartbeats 8000000 in
theorem classes_af (l : List Se) (hl : LOk l) : AF Tryd.prog 18 [seRow l] (fun r => ∃ c : List Int, r = intRow c ∧ c.length = l.length ∧ ∀ i j, inR l i → inR l j → (clsAt c i = clsAt c j ↔ bisP l i j)) := by
  have h16 := hl.n16
  refine af_enter tok Tryd.func18 Tryd.ntmps18 Tryd.results18 rfl (by kernel_rfl) rfl rfl fun F hX => ?_
  repeat (first | refine gG ?_ | refine zN1 (fun hlen => ?_) | refine zN2 (fun hlen => ?_) | refine zAl (fun _ => ?_) | refine zBx (fun _ => ?_) | refine zAp (fun _ => ?_))
  refine zMk l.length [iL 0] (fun vc => ?_)
  repeat (first | refine gG ?_ | refine zN1 (fun hlen => ?_) | refine zN2 (fun hlen => ?_) | refine zAl (fun _ => ?_) | refine zBx (fun _ => ?_) | refine zAp (fun _ => ?_))
  rename_i b1 _ b3
  refine x_eq (hp' := [.box b1 22 [.c (seRow l)], .row vc 3 1 (List.replicate l.length (0 : Int)).length ((List.replicate l.length 0).flatMap intTs), .box b3 50 [.own 1 vc]]) (by rw [← rep_ints, List.length_replicate]) ?_
  refine x_loop [4, 5, 6, 7, 13, 14, 15, 16, 17, 18, 19, 20, 21, 22, 23, 24, 25, 26, 27, 28, 29, 30, 31, 32, 33, 34, 35, 36, 37, 38, 39, 40] (fun q : Nat × List Int × Value => [(13, .c (iL (q.1 : Nat)))]) (fun q => [.box b1 22 [.c (seRow l)], .row q.2.2 3 1 q.2.1.length (q.2.1.flatMap intTs), .box b3 50 [.own 1 q.2.2]]) (fun q => q.1 ≤ l.length ∧ q.2.1.length = l.length ∧ ∀ i j, inR l i → inR l j → (clsAt q.2.1 i = clsAt q.2.1 j ↔ E l q.1 i j)) (fun q => l.length - q.1) (0, List.replicate l.length 0, vc) ⟨Nat.zero_le _, by simp, cls_zero l⟩ ⟨rfl, trivial⟩ rfl ?_
  rintro ⟨r, c, vc'⟩ ⟨hr, hcl, hc⟩
  dsimp only at hr hcl hc ⊢
  repeat (first | refine gG ?_ | refine zN1 (fun hlen => ?_) | refine zN2 (fun hlen => ?_) | refine zAl (fun _ => ?_) | refine zBx (fun _ => ?_) | refine zAp (fun _ => ?_))
  refine x_cond rfl (fun h => ?_) (fun h => ?_)
  · have hr' : r < l.length := by have := of_decide_eq_true h; omega
    clear h
    repeat (first | refine gG ?_ | refine zN1 (fun hlen => ?_) | refine zN2 (fun hlen => ?_) | refine zAl (fun _ => ?_) | refine zBx (fun _ => ?_) | refine zAp (fun _ => ?_))
    refine zMk l.length [iL 0] (fun v5 => ?_)
    repeat (first | refine gG ?_ | refine zN1 (fun hlen => ?_) | refine zN2 (fun hlen => ?_) | refine zAl (fun _ => ?_) | refine zBx (fun _ => ?_) | refine zAp (fun _ => ?_))
    refine x_own 4 3 1 rfl rfl rfl rfl rfl ?_
    refine x_eq (hp' := [.box b1 22 [.c (seRow l)], .row vc' 3 1 c.length (c.flatMap intTs), .box b3 50 [.own 1 vc'], .row v5 3 1 l.length ((padL [] l.length).flatMap intTs), .row (.slice none 0 0) 3 1 0 []]) (by unfold padL; rw [List.nil_append, List.length_nil, Nat.sub_zero, ← rep_ints]) ?_
    refine x_loop [4, 6, 7, 20, 21, 22, 23, 24, 25, 26, 27, 28, 29, 30, 31, 32, 33, 34, 35, 36, 37, 38] (fun q : List Int × List Int × Value => [(20, .c (iL (q.1.length : Nat))), (4, .own 4 q.2.2)]) (fun q => [.box b1 22 [.c (seRow l)], .row vc' 3 1 c.length (c.flatMap intTs), .box b3 50 [.own 1 vc'], .row v5 3 1 l.length ((padL q.1 l.length).flatMap intTs), .row q.2.2 3 1 q.2.1.length (q.2.1.flatMap intTs)]) (fun q => q.1.length ≤ l.length ∧ FInv (apB l c) q.2.1 q.1) (fun q => l.length - q.1.length) ([], [], .slice none 0 0) ⟨Nat.zero_le _, finv_nil _⟩ ⟨rfl, rfl, trivial⟩ rfl ?_
    rintro ⟨done, Fs, vF⟩ ⟨hd, hF⟩
    dsimp only at hd hF ⊢
    have hFl := hF.len
    repeat (first | refine gG ?_ | refine zN1 (fun hlen => ?_) | refine zN2 (fun hlen => ?_) | refine zAl (fun _ => ?_) | refine zBx (fun _ => ?_) | refine zAp (fun _ => ?_))
    refine x_cond rfl (fun h => ?_) (fun h => ?_)
    · have hd' : done.length < l.length := by have := of_decide_eq_true h; omega
      have hix := idxIntF_af (fun j => apB l c (done.length : Nat) j) 30 [.pin [seRow l] 0, .pin [intRow c] 0, .pin [iL (done.length : Nat)] 0] Fs (fun a ha => by
        have hra := hF.rg a ha
        obtain ⟨n, rfl⟩ : ∃ n : Nat, a = (n : Int) := ⟨a.toNat, by omega⟩
        exact classes1_af l hl c hcl done.length n hd' (by omega))
      have hrf : apB l c (done.length : Nat) (done.length : Nat) = true := (apB_E hl hc ⟨by omega, by omega⟩ ⟨by omega, by omega⟩).2 (E.rf l _ _)
      have hsm := fun {k : Nat} (h : Fs.findIdx? (fun j => apB l c (done.length : Nat) j) = some k) => finv_some hF h
      have hnn := fun h => finv_none hF hrf h
      have hsp := fun k => pad_spl hd' k
      have hpl := pad_len (d := done) (n := l.length) (by omega)
      have hpl2 : done.length * 1 + 1 ≤ ((padL done l.length).flatMap intTs).length := by rw [ints_len, hpl]; omega
      clear h hF hc hrf
      cases hf : Fs.findIdx? (fun j => apB l c (done.length : Nat) j) with
      | none =>
        rw [idxI_none hf] at hix
        replace hnn := hnn hf
        clear hsm hf
        replace hsp := hsp (Fs.length : Nat)
        repeat (first | refine gG ?_ | refine zN1 (fun hlen => ?_) | refine zN2 (fun hlen => ?_) | refine zAl (fun _ => ?_) | refine zBx (fun _ => ?_) | refine zAp (fun _ => ?_))
        refine zPeek (hix) ?_
        rintro _ rfl
        refine ⟨rfl, ?_⟩
        repeat (first | refine gG ?_ | refine zN1 (fun hlen => ?_) | refine zN2 (fun hlen => ?_) | refine zAl (fun _ => ?_) | refine zBx (fun _ => ?_) | refine zAp (fun _ => ?_))
        refine zIxo done.length hd' ?_
        repeat (first | refine gG ?_ | refine zN1 (fun hlen => ?_) | refine zN2 (fun hlen => ?_) | refine zAl (fun _ => ?_) | refine zBx (fun _ => ?_) | refine zAp (fun _ => ?_))
        refine zSe hsp hpl2 ?_
        repeat (first | refine gG ?_ | refine zN1 (fun hlen => ?_) | refine zN2 (fun hlen => ?_) | refine zAl (fun _ => ?_) | refine zBx (fun _ => ?_) | refine zAp (fun _ => ?_))
        exact ⟨(done ++ [((Fs.length : Nat) : Int)], Fs ++ [((done.length : Nat) : Int)], _), ⟨by rw [List.length_append]; simp only [List.length_cons, List.length_nil]; omega, hnn⟩, by dsimp only; rw [List.length_append]; simp only [List.length_cons, List.length_nil]; omega, x_wkd 5 ⟨by rw [List.length_append]; rfl, rfl, trivial⟩ (by dsimp only; rw [List.flatMap_append, List.length_append]; rfl) (by repeat (first | exact ag_refl | refine ag_upd rfl ?_ | refine ag_at rfl rfl ?_))⟩
      | some k =>
        rw [idxI_some hf] at hix
        replace hsm := hsm hf
        clear hnn hf
        replace hsp := hsp (k : Nat)
        repeat (first | refine gG ?_ | refine zN1 (fun hlen => ?_) | refine zN2 (fun hlen => ?_) | refine zAl (fun _ => ?_) | refine zBx (fun _ => ?_) | refine zAp (fun _ => ?_))
        refine zPeek (hix) ?_
        rintro _ rfl
        refine ⟨rfl, ?_⟩
        repeat (first | refine gG ?_ | refine zN1 (fun hlen => ?_) | refine zN2 (fun hlen => ?_) | refine zAl (fun _ => ?_) | refine zBx (fun _ => ?_) | refine zAp (fun _ => ?_))
        refine zIxo done.length hd' ?_
        repeat (first | refine gG ?_ | refine zN1 (fun hlen => ?_) | refine zN2 (fun hlen => ?_) | refine zAl (fun _ => ?_) | refine zBx (fun _ => ?_) | refine zAp (fun _ => ?_))
        refine zSe hsp hpl2 ?_
        repeat (first | refine gG ?_ | refine zN1 (fun hlen => ?_) | refine zN2 (fun hlen => ?_) | refine zAl (fun _ => ?_) | refine zBx (fun _ => ?_) | refine zAp (fun _ => ?_))
        exact ⟨(done ++ [((k : Nat) : Int)], Fs, _), ⟨by rw [List.length_append]; simp only [List.length_cons, List.length_nil]; omega, hsm⟩, by dsimp only; rw [List.length_append]; simp only [List.length_cons, List.length_nil]; omega, x_wkd 5 ⟨by rw [List.length_append]; rfl, rfl, trivial⟩ rfl (by repeat (first | exact ag_refl | refine ag_upd rfl ?_ | refine ag_at rfl rfl ?_))⟩
    · have hde : done.length = l.length := by have := of_decide_eq_false h; omega
      have hE := finv_E hl hc hF hde
      have hpd : padL done l.length = done := by unfold padL; rw [hde, Nat.sub_self]; simp
      rw [hpd]
      clear h hF hc hpd
      repeat (first | refine gG ?_ | refine zN1 (fun hlen => ?_) | refine zN2 (fun hlen => ?_) | refine zAl (fun _ => ?_) | refine zBx (fun _ => ?_) | refine zAp (fun _ => ?_))
      refine ⟨(r + 1, done, v5), ⟨hr', hde, hE⟩, by dsimp only; omega, Wk.trans (wk_pick [0, 3, 2] rfl rfl) (Wk.trans (wk_boxR 2 [.own 1 v5] rfl (res_cons re_own res_nil)) (x_wk ⟨rfl, trivial⟩ (by dsimp only; rw [hde]; rfl) (by repeat (first | exact ag_refl | refine ag_upd rfl ?_ | refine ag_at rfl rfl ?_))))⟩
  · have hr' : r = l.length := by have := of_decide_eq_false h; omega
    subst hr'
    clear h
    repeat (first | refine gG ?_ | refine zN1 (fun hlen => ?_) | refine zN2 (fun hlen => ?_) | refine zAl (fun _ => ?_) | refine zBx (fun _ => ?_) | refine zAp (fun _ => ?_))
    first | refine zR ?_ | refine zQ ?_
    exact ⟨c, rfl, hcl, fun i j hi hj => (hc i j hi hj).trans (E_bis hl hi hj)⟩
end Go.Proofs.YthloejmmgdjimaaDoor
namespace Go.Proofs.YthloejmmgdjimaaDoor
open Go.RowKit
section
variable {P : Program} {F : Frm} {L : Tab} {d : Option Tmp} {ty : TypeId} {pos : String} {aft : Array Edge} {g : Option (Nat × Bool)} {ρ : Operand → AV} {hp : List Blk} {K : AV → List Blk → Prop} {xT kT eT : TypeId} {x y z : Operand} {i b : Nat} {te : TI} {z0 : Value} {o : Option (List Nat × Nat)}
theorem zLkio (kT eT : TypeId) {s : Int} {l : List (Int × T)} {t : T} {c : Bool} (ht : (mget s l).getD (.lit z0) = t) (hc : (mget s l).isSome = c) (h : K (.c (.tup [t, .lit (.bool c)])) hp) (hL : TabOk P L := by exact tok) (hu : isMap P xT = some (kT, eT) := by kernel_rfl) (hk : P.underlying kT = some (.int .i64) := by kernel_rfl) (hte : L.look eT = some te := by exact rfl) (hz : te.zero = [z0] := by exact rfl) (ha : te.agg = false := by exact rfl) (hx : ρ x = .own i (.map (some b)) := by exact rfl) (hi : hp[i]? = some (.mpx b (mkeys (Value.int .i64) l) o) := by exact rfl) (hy : ρ y = .c (.lit (.int .i64 s)) := by exact rfl) :
    LO P F ⟨d, .lookup xT x y true, ty, pos, aft, g⟩ ρ hp K := lo_lookup_ok (keyInt .i64) hL (isMap_eq hu) hk hte hz ha hx hi hy (by rw [ht, hc]; exact h)
end
/-- the places of classes -/
def plM (c : List Int) : List Int → Nat → List (Int × T)
  | [], _ => []
  | x :: o, k => (clsAt c x, iL (k : Nat)) :: plM c o (k + 1)
theorem plM_snoc (c : List Int) (x : Int) : ∀ (o : List Int) (k : Nat), plM c (o ++ [x]) k = plM c o k ++ [(clsAt c x, iL ((k + o.length : Nat) : Int))]
  | [], k => rfl
  | y :: o, k => by
    rw [List.cons_append, plM, plM_snoc c x o (k + 1), plM, List.length_cons]
    rw [show k + 1 + o.length = k + (o.length + 1) by omega]
    rfl
theorem plM_get (c : List Int) (x : Int) : ∀ (o : List Int) (k : Nat), mget (clsAt c x) (plM c o k) = (o.findIdx? (fun i => decide (clsAt c i = clsAt c x))).map fun j => iL ((k + j : Nat) : Int)
  | [], k => rfl
  | y :: o, k => by
    rw [plM, mget, List.findIdx?_cons]
    by_cases h : clsAt c x = clsAt c y
    · rw [if_pos h, decide_eq_true h.symm]
      rfl
    · rw [if_neg h, decide_eq_false (fun e => h e.symm), plM_get c x o (k + 1)]
      simp only [Bool.false_eq_true, if_false, Option.map_map]
      congr 1
      funext j
      simp only [Function.comp]
      rw [show k + 1 + j = k + (j + 1) by omega]
theorem mput_end {k : Int} {t : T} : ∀ {l : List (Int × T)}, mget k l = none → mput k t l = l ++ [(k, t)]
  | [], _ => rfl
  | (k', t') :: l, h => by
    unfold mget at h
    split at h
    · cases h
    · rename_i hk
      rw [mput, if_neg hk, mput_end h]
      rfl
theorem find_congr {p q : Int → Bool} : ∀ {l : List Int}, (∀ x ∈ l, p x = q x) → l.findIdx? p = l.findIdx? q
  | [], _ => rfl
  | a :: l, h => by
    rw [List.findIdx?_cons, List.findIdx?_cons, h a List.mem_cons_self, find_congr (fun x hx => h x (List.mem_cons_of_mem _ hx))]
theorem same_cls {l : List Se} {c : List Int} (hc : ∀ i j, inR l i → inR l j → (clsAt c i = clsAt c j ↔ bisP l i j)) {i j : Int} (hi : inR l i) (hj : inR l j) : sameB l i j = decide (clsAt c i = clsAt c j) := by
  rw [Bool.eq_iff_iff, sameB_t, decide_eq_true_iff, hc i j hi hj]
theorem foldl_snoc {α β : Type} (f : β → α → β) (b : β) {l : List α} {k : Nat} {a : α} (h : l[k]? = some a) : (l.take (k + 1)).foldl f b = f ((l.take k).foldl f b) a := by
  obtain ⟨h1, rfl⟩ := List.getElem?_eq_some_iff.1 h
  rw [List.take_succ_eq_append_getElem h1, List.foldl_append]
  rfl
theorem bstep_some {same : Int → Int → Bool} {o : List Int} {bs : List (Int × Int)} {z : Int × Int} {k : Nat} (h : o.findIdx? (fun i => same i z.2) = some k) : bstep same (o, bs) z = (o, bs ++ [(z.1, ((k : Nat) : Int))]) := by unfold bstep; dsimp only; rw [h]
theorem bstep_none {same : Int → Int → Bool} {o : List Int} {bs : List (Int × Int)} {z : Int × Int} (h : o.findIdx? (fun i => same i z.2) = none) : bstep same (o, bs) z = (o ++ [z.2], bs ++ [(z.1, ((o.length : Nat) : Int))]) := by unfold bstep; dsimp only; rw [h]
theorem lstep_go {same : Int → Int → Bool} {l : List Se} {p : List Int × List Se} {s : Int} (h : p.1[p.2.length]? = some s) : lstep same l p = (((stAt l s).br.foldl (bstep same) (p.1, [])).1, p.2 ++ [⟨(stAt l s).kind, ((stAt l s).br.foldl (bstep same) (p.1, [])).2⟩]) := by unfold lstep; rw [h]
theorem bs_len (same : Int → Int → Bool) : ∀ (l : List (Int × Int)) (p : List Int × List (Int × Int)), (l.foldl (bstep same) p).2.length = p.2.length + l.length
  | [], _ => rfl
  | z :: l, p => by
    rw [List.foldl_cons, bs_len same l]
    unfold bstep
    split <;> simp <;> omega
set_option maxRecDepth 100000 in
set_option maxHeartbeats 8000000 in
theorem least_af (l : List Se) : AF Tryd.prog 5 [seRow l] (· = .tup [if seErr l = 0 then seRow (leastL l) else .lit (.slice none 0 0), iL (seErr l)]) := by
  have hc := check_af l
  by_cases he : seErr l = 0
  rotate_left
  · rw [if_neg he]
    generalize seErr l = e at *
    have d1 : (!decide (e = 0)) = true := by rw [decide_eq_false he]; rfl
    refine af_enter tok Tryd.func5 Tryd.ntmps5 Tryd.results5 rfl (by kernel_rfl) rfl rfl fun F hX => ?_
    repeat (first | refine gG ?_ | refine zN1 (fun hlen => ?_) | refine zN2 (fun hlen => ?_) | refine zAl (fun _ => ?_) | refine zAp (fun _ => ?_))
    refine zCall (hc) ?_
    rintro _ rfl
    repeat (first | refine gG ?_ | refine zN1 (fun hlen => ?_) | refine zN2 (fun hlen => ?_) | refine zAl (fun _ => ?_) | refine zAp (fun _ => ?_))
    first | refine zR ?_ | refine zQ ?_
    rfl
  have hl := lok_of he
  have h16 := hl.n16
  have h1 := hl.n1
  have hcl := classes_af l hl
  rw [if_pos he, he]
  rw [he] at hc
  clear he
  refine af_enter tok Tryd.func5 Tryd.ntmps5 Tryd.results5 rfl (by kernel_rfl) rfl rfl fun F hX => ?_
  repeat (first | refine gG ?_ | refine zN1 (fun hlen => ?_) | refine zN2 (fun hlen => ?_) | refine zAl (fun _ => ?_) | refine zAp (fun _ => ?_))
  refine zCall (hc) ?_
  rintro _ rfl
  repeat (first | refine gG ?_ | refine zN1 (fun hlen => ?_) | refine zN2 (fun hlen => ?_) | refine zAl (fun _ => ?_) | refine zAp (fun _ => ?_))
  refine zCall (hcl) ?_
  rintro _ ⟨c, rfl, hcn, hcb⟩
  clear hc hcl
  have hsame := fun {i j : Int} (hi : inR l i) (hj : inR l j) => same_cls hcb hi hj
  have hc0 := cls_get (c := c) (i := 0) rfl (show 0 < c.length by omega)
  repeat (first | refine gX ?_ | refine zN1 (fun hlen => ?_) | refine zN2 (fun hlen => ?_) | refine zAl (fun _ => ?_) | refine zAp (fun _ => ?_))
  refine zBo (fun v0 => ?_)
  repeat (first | refine gG ?_ | refine zN1 (fun hlen => ?_) | refine zN2 (fun hlen => ?_) | refine zAl (fun _ => ?_) | refine zAp (fun _ => ?_))
  refine zMm (fun bm => ?_)
  repeat (first | refine gG ?_ | refine zN1 (fun hlen => ?_) | refine zN2 (fun hlen => ?_) | refine zAl (fun _ => ?_) | refine zAp (fun _ => ?_))
  refine zIx 0 (show 0 < c.length by omega) ?_
  repeat (first | refine gG ?_ | refine zN1 (fun hlen => ?_) | refine zN2 (fun hlen => ?_) | refine zAl (fun _ => ?_) | refine zAp (fun _ => ?_))
  refine zEl1 hc0 ?_
  repeat (first | refine gG ?_ | refine zN1 (fun hlen => ?_) | refine zN2 (fun hlen => ?_) | refine zAl (fun _ => ?_) | refine zAp (fun _ => ?_))
  refine zIni 3 3 (l := []) ?_
  repeat (first | refine gG ?_ | refine zN1 (fun hlen => ?_) | refine zN2 (fun hlen => ?_) | refine zAl (fun _ => ?_) | refine zAp (fun _ => ?_))
  refine x_own 8 46 2 rfl rfl rfl rfl rfl ?_
  have hR := fun k => least_inv hl k
  have hRs : ∀ k, leastR (sameB l) l (k + 1) = lstep (sameB l) l (leastR (sameB l) l k) := fun _ => rfl
  have hend := fun {k : Nat} h1 h2 => least_end hl (k := k) h1 h2
  obtain ⟨R, hRd⟩ : ∃ R, R = leastR (sameB l) l := ⟨_, rfl⟩
  have hR0 : R 0 = ([0], []) := by rw [hRd]; rfl
  rw [← hRd] at hR hRs hend
  clear hRd hcb
  refine x_eq (hp' := [.row v0 3 1 ((R 0).1).length (((R 0).1).flatMap intTs), .mp bm (mkeys (Value.int .i64) (plM c (R 0).1 0)), .row (.slice none 0 0) 46 2 ((R 0).2).length (((R 0).2).flatMap Se.ts)]) (by rw [hR0]; rfl) ?_
  refine x_loop [6, 8, 9, 10, 12, 13, 14, 15, 29, 30, 31, 32, 33, 34, 35, 36, 37, 38, 39, 40, 41, 42, 43, 44, 45, 46, 47, 48, 49, 50, 51, 52, 53, 54, 55, 56, 57, 58, 59, 60, 61, 62, 63, 64, 65, 66, 67, 68, 69, 70, 71, 72, 73, 74, 75, 76, 77, 78, 79, 80, 81, 82, 83, 84, 85, 86, 87, 88, 89, 90, 91, 92, 93] (fun q : Nat × Value × Value => [(9, .c (iL (q.1 : Nat))), (6, .own 0 q.2.1), (8, .own 2 q.2.2)]) (fun q => [.row q.2.1 3 1 ((R q.1).1).length (((R q.1).1).flatMap intTs), .mp bm (mkeys (Value.int .i64) (plM c (R q.1).1 0)), .row q.2.2 46 2 ((R q.1).2).length (((R q.1).2).flatMap Se.ts)]) (fun q => (R q.1).2.length = q.1) (fun q => l.length - q.1) (0, v0, .slice none 0 0) (by rw [hR0]; rfl) ⟨rfl, rfl, rfl, trivial⟩ rfl ?_
  rintro ⟨k, vo, vt⟩ hk
  dsimp only at hk ⊢
  have hRk := hR k
  have hol := hRk.o.len
  have hout := hRk.out
  have hk9 : k ≤ 9223372036854775806 := by omega
  repeat (first | refine gG ?_ | refine zN1 (fun hlen => ?_) | refine zN2 (fun hlen => ?_) | refine zAl (fun _ => ?_) | refine zAp (fun _ => ?_))
  refine x_cond rfl (fun h => ?_) (fun h => ?_)
  · have hk' : k < (R k).1.length := by simpa using h
    obtain ⟨s, hs⟩ := nth hk'
    have hsr := hRk.o.rg s (List.mem_of_getElem? hs)
    replace hRs := hRs k
    rw [lstep_go (by rw [hk]; exact hs)] at hRs
    obtain ⟨n, rfl⟩ : ∃ n : Nat, s = (n : Int) := ⟨s.toNat, by have := hsr.1; omega⟩
    have hn : n < l.length := by have := hsr.2; omega
    obtain ⟨st, hst, est⟩ : ∃ s, l[n]? = some s ∧ stAt l (n : Nat) = s := by
      obtain ⟨s, hs⟩ := nth hn
      exact ⟨s, hs, stAt_nat hs⟩
    have so := hl.st _ (List.mem_of_getElem? hst)
    rw [est] at hRs
    have hat := int_at hs
    have hkd : (l.flatMap Se.ts)[n * 2 + 0]? = some (iL st.kind) := flat_get Se.ts 2 (fun _ => rfl) hst (j := 0) (by omega)
    have hbr : (l.flatMap Se.ts)[n * 2 + 1]? = some (.row st.br.length 2 (st.br.flatMap prTs)) := flat_get Se.ts 2 (fun _ => rfl) hst (j := 1) (by omega)
    have hrng : ∀ z ∈ st.br, inR l z.2 := fun z hz => ⟨(so.rng z hz).2.2.1, (so.rng z hz).2.2.2⟩
    have hlen6 := so.len
    have hLI := hRk.o
    have hinv := fun {j : Nat} => bs_inv hl (st.br.take j) (bs := []) hLI (fun z hz => hrng z (List.mem_of_mem_take hz))
    have hfl := fun {j : Nat} {z : Int × Int} (h : st.br[j]? = some z) => foldl_snoc (bstep (sameB l)) ((R k).1, ([] : List (Int × Int))) h
    clear h hs hst est so hR hsr hRk
    obtain ⟨kd, br⟩ := st
    dsimp only at *
    generalize hR1 : R (k + 1) = R1 at *
    generalize R k = r at *
    obtain ⟨o, ou⟩ := r
    dsimp only at *
    subst hRs
    repeat (first | refine gG ?_ | refine zN1 (fun hlen => ?_) | refine zN2 (fun hlen => ?_) | refine zAl (fun _ => ?_) | refine zAp (fun _ => ?_))
    refine zIxo k hk' ?_
    repeat (first | refine gG ?_ | refine zN1 (fun hlen => ?_) | refine zN2 (fun hlen => ?_) | refine zAl (fun _ => ?_) | refine zAp (fun _ => ?_))
    refine zElo1 hat ?_
    repeat (first | refine gG ?_ | refine zN1 (fun hlen => ?_) | refine zN2 (fun hlen => ?_) | refine zAl (fun _ => ?_) | refine zAp (fun _ => ?_))
    refine zIx n hn ?_
    repeat (first | refine gG ?_ | refine zN1 (fun hlen => ?_) | refine zN2 (fun hlen => ?_) | refine zAl (fun _ => ?_) | refine zAp (fun _ => ?_))
    refine zEl1 hkd ?_
    repeat (first | refine gG ?_ | refine zN1 (fun hlen => ?_) | refine zN2 (fun hlen => ?_) | refine zAl (fun _ => ?_) | refine zAp (fun _ => ?_))
    refine zIxo k hk' ?_
    repeat (first | refine gG ?_ | refine zN1 (fun hlen => ?_) | refine zN2 (fun hlen => ?_) | refine zAl (fun _ => ?_) | refine zAp (fun _ => ?_))
    refine zElo1 hat ?_
    repeat (first | refine gG ?_ | refine zN1 (fun hlen => ?_) | refine zN2 (fun hlen => ?_) | refine zAl (fun _ => ?_) | refine zAp (fun _ => ?_))
    refine zIx n hn ?_
    repeat (first | refine gG ?_ | refine zN1 (fun hlen => ?_) | refine zN2 (fun hlen => ?_) | refine zAl (fun _ => ?_) | refine zAp (fun _ => ?_))
    refine zEl1 hbr ?_
    repeat (first | refine gG ?_ | refine zN1 (fun hlen => ?_) | refine zN2 (fun hlen => ?_) | refine zAl (fun _ => ?_) | refine zAp (fun _ => ?_))
    refine x_own_cell 3 1 49 2 rfl rfl rfl rfl rfl rfl ?_
    rename_i b10
    obtain ⟨G, hGd⟩ : ∃ G : Nat → List Int × List (Int × Int), G = fun j => (br.take j).foldl (bstep (sameB l)) (o, []) := ⟨_, rfl⟩
    have hG0 : G 0 = (o, []) := by rw [hGd]; rfl
    have hGe : G br.length = br.foldl (bstep (sameB l)) (o, []) := by rw [hGd]; dsimp only; rw [List.take_length]
    have hGs : ∀ {j : Nat} {z : Int × Int}, br[j]? = some z → G (j + 1) = bstep (sameB l) (G j) z := fun h => by rw [hGd]; exact hfl h
    have hGi : ∀ j, LInv l (G j).1 := fun j => by rw [hGd]; exact hinv
    have hGl : ∀ j, j ≤ br.length → (G j).2.length = j := fun j hj => by
      rw [hGd]
      dsimp only
      rw [bs_len, List.length_take, Nat.min_eq_left hj]
      simp
    rw [← hGe] at hR1
    clear hGe hGd hfl hinv hLI hkd hbr hat
    refine x_eq (hp' := [.row vo 3 1 (G 0).1.length ((G 0).1.flatMap intTs), .mp bm (mkeys (Value.int .i64) (plM c (G 0).1 0)), .row vt 46 2 ou.length (ou.flatMap Se.ts), .box b10 46 [.c (iL kd), .own 4 (.slice none 0 0)], .row (.slice none 0 0) 49 2 (G 0).2.length ((G 0).2.flatMap prTs)]) (by rw [hG0]; rfl) ?_
    refine x_loop [6, 12, 13, 14, 15, 53, 54, 55, 56, 57, 58, 59, 60, 61, 62, 63, 64, 65, 66, 67, 68, 69, 70, 71, 72, 73, 74, 75, 76, 77, 78, 79, 80, 81, 82, 83, 84, 85, 86, 87, 88, 89] (fun q : Nat × Value × Value => [(53, .c (iL (q.1 : Nat))), (6, .own 0 q.2.1)]) (fun q => [.row q.2.1 3 1 (G q.1).1.length ((G q.1).1.flatMap intTs), .mp bm (mkeys (Value.int .i64) (plM c (G q.1).1 0)), .row vt 46 2 ou.length (ou.flatMap Se.ts), .box b10 46 [.c (iL kd), .own 4 q.2.2], .row q.2.2 49 2 (G q.1).2.length ((G q.1).2.flatMap prTs)]) (fun q => q.1 ≤ br.length) (fun q => br.length - q.1) (0, vo, .slice none 0 0) (Nat.zero_le _) ⟨rfl, rfl, trivial⟩ rfl ?_
    rintro ⟨j, vo', vb⟩ hj
    dsimp only at hj ⊢
    repeat (first | refine gG ?_ | refine zN1 (fun hlen => ?_) | refine zN2 (fun hlen => ?_) | refine zAl (fun _ => ?_) | refine zAp (fun _ => ?_))
    refine x_cond rfl (fun h => ?_) (fun h => ?_)
    · have hj' : j < br.length := by simpa using h
      obtain ⟨⟨m, x⟩, hz⟩ := nth hj'
      have hxr := hrng _ (List.mem_of_getElem? hz)
      have htz := pr_at hz
      replace hGs := hGs hz
      have hGij := hGi j
      have hGlj := hGl j hj
      dsimp only at hxr
      obtain ⟨nx, rfl⟩ : ∃ n : Nat, x = (n : Int) := ⟨x.toNat, by have := hxr.1; omega⟩
      have hnx : nx < c.length := by have := hxr.2; omega
      have hcx := cls_get (c := c) (i := (nx : Nat)) rfl hnx
      clear h hz hrng hGi hGl hR1 hG0 hend hR0 hc0
      generalize hG1 : G (j + 1) = G1 at *
      generalize hGj : G j = g at *
      clear hGj
      obtain ⟨oj, bj⟩ := g
      dsimp only at *
      have hfe : oj.findIdx? (fun i => sameB l i (nx : Nat)) = oj.findIdx? (fun i => decide (clsAt c i = clsAt c (nx : Nat))) := find_congr fun i hi => hsame (hGij.rg i hi) hxr
      have hpg := plM_get c (nx : Nat) oj 0
      rw [← hfe] at hpg
      have hojl := hGij.len
      clear hsame hGij
      cases hf : oj.findIdx? (fun i => sameB l i (nx : Nat)) with
      | none =>
        rw [hf] at hpg
        rw [bstep_none (by exact hf)] at hGs
        subst hGs
        have hmp : mput (clsAt c (nx : Nat)) (iL (oj.length : Nat)) (plM c oj 0) = plM c (oj ++ [((nx : Nat) : Int)]) 0 := by
          rw [mput_end hpg, plM_snoc, Nat.zero_add]
        clear hf hfe
        generalize clsAt c (nx : Nat) = cx at *
        repeat (first | refine gG ?_ | refine zN1 (fun hlen => ?_) | refine zN2 (fun hlen => ?_) | refine zAl (fun _ => ?_) | refine zAp (fun _ => ?_))
        refine zIx j hj' ?_
        repeat (first | refine gG ?_ | refine zN1 (fun hlen => ?_) | refine zN2 (fun hlen => ?_) | refine zAl (fun _ => ?_) | refine zAp (fun _ => ?_))
        refine zEl htz rfl ?_
        repeat (first | refine gG ?_ | refine zN1 (fun hlen => ?_) | refine zN2 (fun hlen => ?_) | refine zAl (fun _ => ?_) | refine zAp (fun _ => ?_))
        refine zIx nx hnx ?_
        repeat (first | refine gG ?_ | refine zN1 (fun hlen => ?_) | refine zN2 (fun hlen => ?_) | refine zAl (fun _ => ?_) | refine zAp (fun _ => ?_))
        refine zEl1 hcx ?_
        repeat (first | refine gG ?_ | refine zN1 (fun hlen => ?_) | refine zN2 (fun hlen => ?_) | refine zAl (fun _ => ?_) | refine zAp (fun _ => ?_))
        refine zLkio 3 3 (t := iL 0) (c := false) (by rw [hpg]; rfl) (by rw [hpg]; rfl) ?_
        repeat (first | refine gG ?_ | refine zN1 (fun hlen => ?_) | refine zN2 (fun hlen => ?_) | refine zAl (fun _ => ?_) | refine zAp (fun _ => ?_))
        refine zUpi 3 3 ?_
        repeat (first | refine gG ?_ | refine zN1 (fun hlen => ?_) | refine zN2 (fun hlen => ?_) | refine zAl (fun _ => ?_) | refine zAp (fun _ => ?_))
        exact ⟨(j + 1, _, _), hj', by dsimp only; omega, x_wkd 5 ⟨rfl, rfl, trivial⟩ (by dsimp only; rw [hG1, ← hmp]; simp only [List.length_append, List.flatMap_append]; rfl) (by repeat (first | exact ag_refl | refine ag_upd rfl ?_ | refine ag_at rfl rfl ?_))⟩
      | some p =>
        rw [hf] at hpg
        rw [bstep_some (by exact hf)] at hGs
        subst hGs
        rw [Option.map_some, Nat.zero_add] at hpg
        have hpl := (List.findIdx?_eq_some_iff_getElem.1 hf).1
        clear hf hfe
        generalize clsAt c (nx : Nat) = cx at *
        repeat (first | refine gG ?_ | refine zN1 (fun hlen => ?_) | refine zN2 (fun hlen => ?_) | refine zAl (fun _ => ?_) | refine zAp (fun _ => ?_))
        refine zIx j hj' ?_
        repeat (first | refine gG ?_ | refine zN1 (fun hlen => ?_) | refine zN2 (fun hlen => ?_) | refine zAl (fun _ => ?_) | refine zAp (fun _ => ?_))
        refine zEl htz rfl ?_
        repeat (first | refine gG ?_ | refine zN1 (fun hlen => ?_) | refine zN2 (fun hlen => ?_) | refine zAl (fun _ => ?_) | refine zAp (fun _ => ?_))
        refine zIx nx hnx ?_
        repeat (first | refine gG ?_ | refine zN1 (fun hlen => ?_) | refine zN2 (fun hlen => ?_) | refine zAl (fun _ => ?_) | refine zAp (fun _ => ?_))
        refine zEl1 hcx ?_
        repeat (first | refine gG ?_ | refine zN1 (fun hlen => ?_) | refine zN2 (fun hlen => ?_) | refine zAl (fun _ => ?_) | refine zAp (fun _ => ?_))
        refine zLkio 3 3 (t := iL (p : Nat)) (c := true) (by rw [hpg]; rfl) (by rw [hpg]; rfl) ?_
        repeat (first | refine gG ?_ | refine zN1 (fun hlen => ?_) | refine zN2 (fun hlen => ?_) | refine zAl (fun _ => ?_) | refine zAp (fun _ => ?_))
        exact ⟨(j + 1, _, _), hj', by dsimp only; omega, x_wkd 5 ⟨rfl, rfl, trivial⟩ (by dsimp only; rw [hG1]; simp only [List.length_append, List.flatMap_append]; rfl) (by repeat (first | exact ag_refl | refine ag_upd rfl ?_ | refine ag_at rfl rfl ?_))⟩
    · have hj' : j = br.length := by have : ¬ j < br.length := by simpa using h
                                     omega
      subst hj'
      have hGij := (hGi br.length).len
      have hGlj := hGl br.length (Nat.le_refl _)
      clear h hGs hGi hGl hG0 hrng hsame hend
      generalize G br.length = g at *
      obtain ⟨oj, bj⟩ := g
      dsimp only at *
      refine x_fzc 3 1 ?_
      repeat (first | refine gG ?_ | refine zN1 (fun hlen => ?_) | refine zN2 (fun hlen => ?_) | refine zAl (fun _ => ?_) | refine zAp (fun _ => ?_))
      exact ⟨(k + 1, vo', _), by dsimp only; rw [hR1, List.length_append, hk]; rfl, by dsimp only; omega, x_wkd 3 ⟨rfl, rfl, rfl, trivial⟩ (by dsimp only; rw [hR1]; simp only [List.length_append, List.flatMap_append]; rfl) (by repeat (first | exact ag_refl | refine ag_upd rfl ?_ | refine ag_at rfl rfl ?_))⟩
  · have hke : k = (R k).1.length := by have := of_decide_eq_false h; omega
    have he := hend hk hke.symm
    clear h hend hR hRs hRk hol hout
    generalize R k = r at *
    obtain ⟨o, ou⟩ := r
    dsimp only at *
    subst he
    repeat (first | refine gG ?_ | refine zN1 (fun hlen => ?_) | refine zN2 (fun hlen => ?_) | refine zAl (fun _ => ?_) | refine zAp (fun _ => ?_))
    first | refine zR ?_ | refine zQ ?_
    rfl
end Go.Proofs.YthloejmmgdjimaaDoor
