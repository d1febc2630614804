/-
  Texts of this proof, part 8: Vaj Vak Open Law OpenT Tv Tsm Ty OpenY OpenW.
-/
import Derived.Test.YtnkafjkcjpajgaaQVersionAlgebra7
import Derived.Deep.Slices
import Derived.JoinedCond
import Derived.Laws.IdiomRangeMap
import Derived.Lib.AppendStr
import Derived.MapKept
import Derived.OpenShut
import Derived.ProofKit
import Derived.Test.YtnkafjkcjpajgaaRows
namespace Go.Proofs.Ytnkafjkcjpajgaa
open Go.RowKit
set_option maxRecDepth 100000 in
set_option maxHeartbeats 2000000 in
theorem not_af (l : List Rg) (hb : Bound l) (hc : Canon l) (hl : l.length ≤ 1048576) : AF Try.prog 47 [rgRow l] (· = rgRow (notL l)) := by
  unfold notL
  refine af_enter tok Try.func47 Try.ntmps47 Try.results47 rfl (by kernel_rfl) rfl rfl fun F hX => ?_
  repeat (first | refine gG ?_ | refine zN1 (fun hlen => ?_) | refine zN2 (fun hlen => ?_) | refine zAl (fun _ => ?_) | refine zAp (fun _ => ?_))
  refine x_own 3 32 2 rfl rfl rfl rfl rfl ?_
  refine x_loop [3, 4, 6, 9, 10, 11, 12, 13, 14, 15, 16, 17, 18, 19, 20, 21, 22, 23, 24, 25, 26, 27, 28] (fun y : Nat × Value => [(9, .c (.lit (.int .i64 (y.1 : Nat)))), (3, .own 0 y.2), (4, .c (.lit (.int .i64 (notTo (l.take y.1)).2)))]) (fun y => [.row y.2 32 2 (notTo (l.take y.1)).1.length ((notTo (l.take y.1)).1.flatMap rgTs)])
    (fun y => y.1 ≤ l.length) (fun y => l.length - y.1) (0, .slice none 0 0) (Nat.zero_le _) ⟨rfl, rfl, rfl, trivial⟩ rfl ?_
  rintro ⟨k, v⟩ hk
  dsimp only at hk ⊢
  repeat (first | refine gG ?_ | refine zN1 (fun hlen => ?_) | refine zN2 (fun hlen => ?_) | refine zAl (fun _ => ?_) | refine zAp (fun _ => ?_))
  refine x_cond rfl (fun h => ?_) (fun h => ?_)
  · have hk' : k < l.length := by simpa using h
    obtain ⟨r, hr⟩ := nth hk'
    have hat := Rg.at hr
    have hbr := hb r (List.mem_of_getElem? hr)
    have hcr := hc.2 r (List.mem_of_getElem? hr)
    have hsn := notTo_snoc hr
    have hle := notTo_le (l.take k)
    rw [List.length_take] at hle
    clear h hr
    generalize notTo (l.take k) = s at *
    generalize hS : notTo (l.take (k + 1)) = s' at *
    obtain ⟨o, n⟩ := s
    obtain ⟨a, b⟩ := r
    dsimp only at hbr hcr hle
    cases d1 : decide (n < a)
    · have hsn : s' = (o, b + 1) := by rw [hsn]; unfold notStep; dsimp only; rw [d1]; rfl
      repeat (first | refine gG ?_ | refine zN1 (fun hlen => ?_) | refine zN2 (fun hlen => ?_) | refine zAl (fun _ => ?_) | refine zAp (fun _ => ?_))
      refine zIx (k) (hk') ?_
      repeat (first | refine gG ?_ | refine zN1 (fun hlen => ?_) | refine zN2 (fun hlen => ?_) | refine zAl (fun _ => ?_) | refine zAp (fun _ => ?_))
      refine zEl (hat) (rgTs_len _) ?_
      repeat (first | refine gG ?_ | refine zN1 (fun hlen => ?_) | refine zN2 (fun hlen => ?_) | refine zAl (fun _ => ?_) | refine zAp (fun _ => ?_))
      refine lo_add rfl rfl (r := b + 1) (by rw [IntWalk.i64_in _ (by omega)]) ?_
      repeat (first | refine gG ?_ | refine zN1 (fun hlen => ?_) | refine zN2 (fun hlen => ?_) | refine zAl (fun _ => ?_) | refine zAp (fun _ => ?_))
      exact ⟨(k + 1, _), hk', by simp only; omega, x_wkd 1 ⟨rfl, rfl, by dsimp only; rw [hS, hsn]; rfl, trivial⟩ (by dsimp only; rw [hS, hsn]; rfl) (by repeat (first | exact ag_refl | refine ag_upd rfl ?_ | refine ag_at rfl rfl ?_))⟩
    · have hsn : s' = (o ++ [(n, a - 1)], b + 1) := by rw [hsn]; unfold notStep; dsimp only; rw [d1]; rfl
      have hone := rgs_one o (n, a - 1)
      repeat (first | refine gG ?_ | refine zN1 (fun hlen => ?_) | refine zN2 (fun hlen => ?_) | refine zAl (fun _ => ?_) | refine zAp (fun _ => ?_))
      refine zIx (k) (hk') ?_
      repeat (first | refine gG ?_ | refine zN1 (fun hlen => ?_) | refine zN2 (fun hlen => ?_) | refine zAl (fun _ => ?_) | refine zAp (fun _ => ?_))
      refine zEl (hat) (rgTs_len _) ?_
      repeat (first | refine gG ?_ | refine zN1 (fun hlen => ?_) | refine zN2 (fun hlen => ?_) | refine zAl (fun _ => ?_) | refine zAp (fun _ => ?_))
      refine lo_sub rfl rfl (r := a - 1) (by rw [IntWalk.i64_in _ (by omega)]) ?_
      repeat (first | refine gG ?_ | refine zN1 (fun hlen => ?_) | refine zN2 (fun hlen => ?_) | refine zAl (fun _ => ?_) | refine zAp (fun _ => ?_))
      refine lo_add rfl rfl (r := b + 1) (by rw [IntWalk.i64_in _ (by omega)]) ?_
      repeat (first | refine gG ?_ | refine zN1 (fun hlen => ?_) | refine zN2 (fun hlen => ?_) | refine zAl (fun _ => ?_) | refine zAp (fun _ => ?_))
      exact ⟨(k + 1, _), hk', by simp only; omega, x_wkd 1 ⟨rfl, rfl, by dsimp only; rw [hS, hsn]; rfl, trivial⟩ (by dsimp only; rw [hS, hsn]; dsimp only; rw [hone.1, hone.2]; rfl) (by repeat (first | exact ag_refl | refine ag_upd rfl ?_ | refine ag_at rfl rfl ?_))⟩
  · have hk' : k = l.length := by
      have : ¬ k < l.length := by simpa using h
      omega
    subst hk'
    rw [List.take_length]
    have hle := notTo_le l
    clear h
    generalize notTo l = s at *
    obtain ⟨o, n⟩ := s
    dsimp only at hle ⊢
    cases d1 : decide (n ≤ 9999)
    · repeat (first | refine gG ?_ | refine zN1 (fun hlen => ?_) | refine zN2 (fun hlen => ?_) | refine zAl (fun _ => ?_) | refine zAp (fun _ => ?_))
      first | refine zR ?_ | refine zQ ?_
      rfl
    · have hone := rgs_one o (n, 9999)
      repeat (first | refine gG ?_ | refine zN1 (fun hlen => ?_) | refine zN2 (fun hlen => ?_) | refine zAl (fun _ => ?_) | refine zAp (fun _ => ?_))
      first | refine zR ?_ | refine zQ ?_
      show _ = rgRow (o ++ [(n, 9999)])
      unfold rgRow
      rw [hone.1, hone.2]
      rfl
def notV (l : List Rg) : List Rg × Int := bif decide (faultL l = 0) then lim (notL l) else ([], faultL l)
set_option maxRecDepth 100000 in
set_option maxHeartbeats 1000000 in
theorem Not_af (l : List Rg) : AF Try.prog 17 [rgRow l] (· = resT (notV l)) := by
  have hc := check_af l
  have hf := @faultL_ok l
  unfold notV
  generalize faultL l = e at *
  cases d1 : decide (e = 0)
  · refine af_enter tok Try.func17 Try.ntmps17 Try.results17 rfl (by kernel_rfl) rfl rfl fun F hX => ?_
    repeat (first | refine gG ?_)
    refine zCall (hc) ?_
    rintro _ rfl
    repeat (first | refine gG ?_)
    first | refine zR (ts := [rgRow [], .lit (.int .i64 e)]) ?_ | refine zQ (ts := [rgRow [], .lit (.int .i64 e)]) ?_
    rfl
  · obtain rfl := of_decide_eq_true d1
    obtain ⟨h1, h2, h3⟩ := hf rfl
    have hn := not_af l h2 h1 (by omega)
    generalize notL l = o at *
    have hlm := limited_af o
    rw [cond_true]
    generalize lim o = rr at *
    obtain ⟨ro, re⟩ := rr
    clear hf
    refine af_enter tok Try.func17 Try.ntmps17 Try.results17 rfl (by kernel_rfl) rfl rfl fun F hX => ?_
    repeat (first | refine gG ?_)
    refine zCall (hc) ?_
    rintro _ rfl
    repeat (first | refine gG ?_)
    refine zCall (hn) ?_
    rintro _ rfl
    repeat (first | refine gG ?_)
    refine zCall (hlm) ?_
    rintro _ rfl
    repeat (first | refine gG ?_)
    first | refine zR (ts := [rgRow ro, .lit (.int .i64 re)]) ?_ | refine zQ (ts := [rgRow ro, .lit (.int .i64 re)]) ?_
    rfl
def faultTwo (a b : List Rg) : Int := bif decide (faultL a = 0) then faultL b else faultL a
set_option maxRecDepth 100000 in
set_option maxHeartbeats 1000000 in
theorem checkBoth_af (a b : List Rg) : AF Try.prog 49 [rgRow a, rgRow b] (· = .lit (.int .i64 (faultTwo a b))) := by
  have ha := check_af a
  have hb := check_af b
  unfold faultTwo
  generalize faultL a = e at *
  generalize faultL b = e' at *
  cases d1 : decide (e = 0)
  · refine af_enter tok Try.func49 Try.ntmps49 Try.results49 rfl (by kernel_rfl) rfl rfl fun F hX => ?_
    repeat (first | refine gG ?_)
    refine zCall (ha) ?_
    rintro _ rfl
    repeat (first | refine gG ?_)
    first | refine zR ?_ | refine zQ ?_
    rfl
  · refine af_enter tok Try.func49 Try.ntmps49 Try.results49 rfl (by kernel_rfl) rfl rfl fun F hX => ?_
    repeat (first | refine gG ?_)
    refine zCall (ha) ?_
    rintro _ rfl
    repeat (first | refine gG ?_)
    refine zCall (hb) ?_
    rintro _ rfl
    repeat (first | refine gG ?_)
    first | refine zR ?_ | refine zQ ?_
    rfl
theorem faultTwo_ok {a b : List Rg} (h : faultTwo a b = 0) : (Canon a ∧ Bound a ∧ a.length ≤ 50) ∧ Canon b ∧ Bound b ∧ b.length ≤ 50 := by
  unfold faultTwo at h
  cases d1 : decide (faultL a = 0)
  · rw [d1, cond_false] at h
    exact absurd h (of_decide_eq_false d1)
  · rw [d1, cond_true] at h
    exact ⟨faultL_ok (of_decide_eq_true d1), faultL_ok h⟩
def rgAll (l : List Rg) : List T := l.flatMap rgTs
theorem rgAll_app (a b : List Rg) : rgAll (a ++ b) = rgAll a ++ rgAll b := by simp [rgAll]
set_option maxRecDepth 100000 in
set_option maxHeartbeats 1000000 in
theorem growR_ag (n : Nat) (hn : n ≤ 1048576) : AG Try.prog 86 [.c (.lit (.slice none 0 0)), .c (.lit (.int .i64 (n : Nat)))] [] (fun r hs => ∃ v', r = .own 0 v' ∧ hs = [.row v' 32 2 0 []]) := by
  have d0 : decide (((n : Nat) : Int) < 0) = false := decide_eq_false (by omega)
  rcases Nat.eq_zero_or_pos n with rfl | h0
  · have d1 : decide ((0 : Int) < (((0 : Nat) : Nat) : Int) - (0 - 0)) = false := rfl
    refine ag_enter 2 tok Try.func86 Try.ntmps86 Try.results86 rfl (by kernel_rfl) rfl fun F => ?_
    repeat (first | refine gO ?_ | refine zSub ?_ | refine zCap0 ?_ | refine ac_seq ?_ | refine ac_block ?_ | refine ac_region ?_ | refine ac_skip ?_ | refine zT ?_ | refine zF ?_)
    refine x_own 4 32 2 rfl rfl rfl rfl rfl ?_
    repeat (first | refine gG ?_ | refine zN1 (fun hlen => ?_) | refine zN2 (fun hlen => ?_) | refine zSub ?_ | refine zAp (fun _ => ?_))
    refine zG ?_
    exact ⟨_, rfl, rfl⟩
  · have d1 : decide ((0 : Int) < ((n : Nat) : Int) - (0 - 0)) = true := decide_eq_true (by omega)
    refine ag_enter 2 tok Try.func86 Try.ntmps86 Try.results86 rfl (by kernel_rfl) rfl fun F => ?_
    repeat (first | refine gG ?_ | refine zSub ?_ | refine zCap0 ?_ | refine zHn ?_)
    refine zAp0 n h0 hn (fun _ ts => ?_)
    repeat (first | refine gG ?_ | refine zSub ?_ | refine zCap0 ?_ | refine zHn ?_)
    refine zQh (n := n) 0 (Nat.zero_le _) (fun _ => ?_)
    repeat (first | refine gG ?_ | refine zN1 (fun hlen => ?_) | refine zN2 (fun hlen => ?_) | refine zSub ?_ | refine zAp (fun _ => ?_))
    refine zG ?_
    exact ⟨_, rfl, rfl⟩
theorem catR_at {L : List (List Rg)} {k : Nat} {a : List Rg} (h : L[k]? = some a) : (L.map fun x => rgRow x)[k * 1]? = some (rgRow a) := by simp [h]
set_option maxRecDepth 100000 in
set_option maxHeartbeats 1000000 in
theorem concatR_af (L : List (List Rg)) (hL : L.flatten.length ≤ 1048576) (hl : L.length ≤ 1048576) : AF Try.prog 50 [.row L.length 1 (L.map fun x => rgRow x)] (· = rgRow L.flatten) := by
  have hg := growR_ag L.flatten.length hL
  refine af_enter tok Try.func50 Try.ntmps50 Try.results50 rfl (by kernel_rfl) rfl rfl fun F hX => ?_
  repeat (first | refine gG ?_ | refine zN1 (fun hlen => ?_) | refine zN2 (fun hlen => ?_) | refine zAp (fun _ => ?_))
  refine x_loop [3, 5, 11, 12, 13, 14, 15, 16, 17, 18, 19, 20, 21, 22] (fun k : Nat => [(11, .c (.lit (.int .i64 (k : Nat)))), (3, .c (.lit (.int .i64 ((L.take k).flatten.length : Nat))))]) (fun _ => []) (fun k => k ≤ L.length) (fun k => L.length - k) 0 (Nat.zero_le _) ⟨rfl, rfl, trivial⟩ rfl ?_
  intro k hk
  repeat (first | refine gG ?_ | refine zN1 (fun hlen => ?_) | refine zN2 (fun hlen => ?_) | refine zAp (fun _ => ?_))
  refine x_cond rfl (fun h => ?_) (fun h => ?_)
  · have hk' : k < L.length := by simpa using h
    obtain ⟨a, ha⟩ := nth hk'
    have hat := catR_at ha
    have hsn : (L.take (k + 1)).flatten.length = (L.take k).flatten.length + a.length := by rw [List.take_add_one, ha]; simp
    have hle : (L.take (k + 1)).flatten.length ≤ L.flatten.length := by
      have := congrArg (fun r => r.flatten.length) (List.take_append_drop (k + 1) L)
      simp only [List.flatten_append, List.length_append] at this
      omega
    have d0 : decide ((((L.take k).flatten.length + a.length : Nat) : Int) < 0) = false := decide_eq_false (by omega)
    clear h ha
    repeat (first | refine gG ?_ | refine zN1 (fun hlen => ?_) | refine zN2 (fun hlen => ?_) | refine zAp (fun _ => ?_))
    refine zIx k hk' ?_
    repeat (first | refine gG ?_ | refine zN1 (fun hlen => ?_) | refine zN2 (fun hlen => ?_) | refine zAp (fun _ => ?_))
    refine zEl1 hat ?_
    repeat (first | refine gA ?_ | refine zN1 (fun hlen => ?_) | refine zN2 (fun hlen => ?_))
    exact ⟨k + 1, hk', by omega, x_wkd 0 ⟨rfl, by rw [hsn]; rfl, trivial⟩ rfl (by repeat (first | exact ag_refl | refine ag_upd rfl ?_ | refine ag_at rfl rfl ?_))⟩
  have hk' : k = L.length := by
    have : ¬ k < L.length := by simpa using h
    omega
  subst hk'
  clear h hk
  rw [List.take_length]
  repeat (first | refine gG ?_ | refine zN1 (fun hlen => ?_) | refine zN2 (fun hlen => ?_) | refine zAp (fun _ => ?_))
  refine zCallG [] hg ?_
  rintro _ _ ⟨v', rfl, rfl⟩
  refine ⟨.own 0 v', _, re_own, rfl, rfl, ?_⟩
  clear hg
  repeat (first | refine gG ?_ | refine zN1 (fun hlen => ?_) | refine zN2 (fun hlen => ?_) | refine zAp (fun _ => ?_))
  refine x_loop [6, 8, 27, 28, 29, 30, 31, 32, 33, 34] (fun y : Nat × Value => [(27, .c (.lit (.int .i64 (y.1 : Nat)))), (6, .own 0 y.2)]) (fun y => [.row y.2 32 2 (L.take y.1).flatten.length (rgAll (L.take y.1).flatten)]) (fun y => y.1 ≤ L.length) (fun y => L.length - y.1) (0, v') (Nat.zero_le _) ⟨rfl, rfl, trivial⟩ rfl ?_
  rintro ⟨k, v⟩ hk
  dsimp only at hk ⊢
  repeat (first | refine gG ?_ | refine zN1 (fun hlen => ?_) | refine zN2 (fun hlen => ?_) | refine zAp (fun _ => ?_))
  refine x_cond rfl (fun h => ?_) (fun h => ?_)
  · have hk' : k < L.length := by simpa using h
    obtain ⟨a, ha⟩ := nth hk'
    have hat := catR_at ha
    have hsn : (L.take (k + 1)).flatten = (L.take k).flatten ++ a := by rw [List.take_add_one, ha]; simp
    have hle : (L.take (k + 1)).flatten.length ≤ L.flatten.length := by
      have := congrArg (fun r => r.flatten.length) (List.take_append_drop (k + 1) L)
      simp only [List.flatten_append, List.length_append] at this
      omega
    have hl1 : (L.take (k + 1)).flatten.length = (L.take k).flatten.length + a.length := by rw [hsn, List.length_append]
    have hc1 : rgAll (L.take (k + 1)).flatten = rgAll (L.take k).flatten ++ rgAll a := by rw [hsn]; exact rgAll_app _ _
    clear h ha hsn
    repeat (first | refine gG ?_ | refine zN1 (fun hlen => ?_) | refine zN2 (fun hlen => ?_) | refine zAp (fun _ => ?_))
    refine zIx k hk' ?_
    repeat (first | refine gG ?_ | refine zN1 (fun hlen => ?_) | refine zN2 (fun hlen => ?_) | refine zAp (fun _ => ?_))
    refine zEl1 hat ?_
    repeat (first | refine gG ?_ | refine zN1 (fun hlen => ?_) | refine zN2 (fun hlen => ?_) | refine zAp (fun _ => ?_))
    exact ⟨(k + 1, _), hk', by simp only; omega, x_wkd 1 ⟨rfl, rfl, trivial⟩ (by simp only [hl1, hc1]; rfl) (by repeat (first | exact ag_refl | refine ag_upd rfl ?_ | refine ag_at rfl rfl ?_))⟩
  · have hk' : k = L.length := by
      have : ¬ k < L.length := by simpa using h
      omega
    subst hk'
    clear h
    rw [List.take_length]
    repeat (first | refine gG ?_ | refine zN1 (fun hlen => ?_) | refine zN2 (fun hlen => ?_) | refine zAp (fun _ => ?_))
    first | refine zR ?_ | refine zQ ?_
    rfl
theorem catR2_af (a b : List Rg) (h : a.length + b.length ≤ 1048576) : AF Try.prog 50 [.row 2 1 [rgRow a, rgRow b]] (· = rgRow (a ++ b)) := by
  have := concatR_af [a, b] (by simpa using h) (by simp)
  simpa using this
def bothTo (a b : List Rg) (k j : Nat) : List Rg := bothL (a.take k) b ++ (match a[k]? with | none => [] | some x => bothX (b.take j) x)
theorem bothTo_start {a b : List Rg} {k : Nat} : bothL (a.take k) b = bothTo a b k 0 := by
  unfold bothTo
  rcases a[k]? with _ | x <;> simp [bothX]
theorem bothTo_next {a b : List Rg} {k j : Nat} {x y : Rg} (hx : a[k]? = some x) (hy : b[j]? = some y) : bothTo a b k (j + 1) = bothTo a b k j ++ (bif okR (meetR x y) then [meetR x y] else []) := by
  obtain ⟨h1, rfl⟩ := List.getElem?_eq_some_iff.1 hy
  simp only [bothTo, hx, bothX, List.take_succ_eq_append_getElem h1, List.map_append, List.map_cons, List.map_nil, List.filter_append, List.append_assoc]
  rw [show ([meetR x b[j]].filter okR) = (bif okR (meetR x b[j]) then [meetR x b[j]] else []) by rw [List.filter_cons]; cases okR (meetR x b[j]) <;> rfl]
theorem bothTo_end {a b : List Rg} {k : Nat} {x : Rg} (hx : a[k]? = some x) : bothTo a b k b.length = bothL (a.take (k + 1)) b := by
  obtain ⟨h1, h2⟩ := List.getElem?_eq_some_iff.1 hx
  have e : a.take (k + 1) = a.take k ++ [x] := by rw [List.take_succ_eq_append_getElem h1, h2]
  unfold bothTo
  rw [hx, List.take_length, e]
  unfold bothL
  rw [List.flatMap_append, List.flatMap_cons, List.flatMap_nil, List.append_nil]
theorem bothX_len (b : List Rg) (x : Rg) : (bothX b x).length ≤ b.length := by
  unfold bothX
  exact Nat.le_trans (List.length_filter_le _ _) (by simp)
theorem bothL_len (b : List Rg) : ∀ a : List Rg, (bothL a b).length ≤ a.length * b.length
  | [] => by simp [bothL]
  | x :: a => by
    have h1 := bothL_len b a
    have h2 := bothX_len b x
    have : bothL (x :: a) b = bothX b x ++ bothL a b := rfl
    rw [this, List.length_append, List.length_cons, Nat.add_mul]
    omega
theorem bothTo_len {a b : List Rg} (ha : a.length ≤ 50) (hb : b.length ≤ 50) (k j : Nat) : (bothTo a b k j).length ≤ 2550 := by
  unfold bothTo
  rw [List.length_append]
  have h1 := bothL_len b (a.take k)
  have h2 : (a.take k).length * b.length ≤ 50 * 50 := Nat.mul_le_mul (by rw [List.length_take]; omega) hb
  rcases a[k]? with _ | x
  · simp only [List.length_nil]; omega
  · have h3 := bothX_len (b.take j) x
    rw [List.length_take] at h3
    simp only
    omega
def bothV (a b : List Rg) : List Rg × Int := bif decide (faultTwo a b = 0) then lim (bothL a b) else ([], faultTwo a b)
set_option maxRecDepth 100000 in
set_option maxHeartbeats 4000000 in
theorem both_af (a b : List Rg) : AF Try.prog 21 [rgRow a, rgRow b] (· = resT (bothV a b)) := by
  have hc := checkBoth_af a b
  have hf := @faultTwo_ok a b
  unfold bothV
  generalize faultTwo a b = e at *
  cases d1 : decide (e = 0)
  · refine af_enter tok Try.func21 Try.ntmps21 Try.results21 rfl (by kernel_rfl) rfl rfl fun F hX => ?_
    repeat (first | refine gG ?_ | refine zN1 (fun hlen => ?_) | refine zN2 (fun hlen => ?_) | refine zAl (fun _ => ?_) | refine zAp (fun _ => ?_))
    refine zCall (hc) ?_
    rintro _ rfl
    repeat (first | refine gG ?_ | refine zN1 (fun hlen => ?_) | refine zN2 (fun hlen => ?_) | refine zAl (fun _ => ?_) | refine zAp (fun _ => ?_))
    first | refine zR (ts := [rgRow [], .lit (.int .i64 e)]) ?_ | refine zQ (ts := [rgRow [], .lit (.int .i64 e)]) ?_
    rfl
  · obtain rfl := of_decide_eq_true d1
    obtain ⟨⟨-, -, ha⟩, -, -, hb⟩ := hf rfl
    rw [cond_true]
    clear hf
    refine af_enter tok Try.func21 Try.ntmps21 Try.results21 rfl (by kernel_rfl) rfl rfl fun F hX => ?_
    repeat (first | refine gG ?_ | refine zN1 (fun hlen => ?_) | refine zN2 (fun hlen => ?_) | refine zAl (fun _ => ?_) | refine zAp (fun _ => ?_))
    refine zCall (hc) ?_
    rintro _ rfl
    clear hc
    repeat (first | refine gG ?_ | refine zN1 (fun hlen => ?_) | refine zN2 (fun hlen => ?_) | refine zAl (fun _ => ?_) | refine zAp (fun _ => ?_))
    refine x_own 7 32 2 rfl rfl rfl rfl rfl ?_
    repeat (first | refine gG ?_ | refine zN1 (fun hlen => ?_) | refine zN2 (fun hlen => ?_) | refine zAl (fun _ => ?_) | refine zAp (fun _ => ?_))
    refine x_loop [7, 9, 11, 12, 21, 22, 23, 24, 25, 26, 27, 28, 29, 30, 31, 32, 33, 34, 35, 36, 37, 38, 39, 40, 41, 42, 43, 44, 45, 46, 47, 48, 49, 50, 51, 52] (fun y : Nat × Value => [(21, .c (.lit (.int .i64 (y.1 : Nat)))), (7, .own 0 y.2)]) (fun y => [.row y.2 32 2 (bothL (a.take y.1) b).length ((bothL (a.take y.1) b).flatMap rgTs)])
      (fun y => y.1 ≤ a.length) (fun y => a.length - y.1) (0, .slice none 0 0) (Nat.zero_le _) ⟨rfl, rfl, trivial⟩ rfl ?_
    rintro ⟨k, v⟩ hk
    dsimp only at hk ⊢
    repeat (first | refine gG ?_ | refine zN1 (fun hlen => ?_) | refine zN2 (fun hlen => ?_) | refine zAl (fun _ => ?_) | refine zAp (fun _ => ?_))
    refine x_cond rfl (fun h => ?_) (fun h => ?_)
    · have hk' : k < a.length := by simpa using h
      obtain ⟨x, hx⟩ := nth hk'
      have hat := Rg.at hx
      have hend := bothTo_end (b := b) hx
      rw [bothTo_start]
      clear h
      obtain ⟨x1, x2⟩ := x
      repeat (first | refine gG ?_ | refine zN1 (fun hlen => ?_) | refine zN2 (fun hlen => ?_) | refine zAl (fun _ => ?_) | refine zAp (fun _ => ?_))
      refine zIx (k) (hk') ?_
      repeat (first | refine gG ?_ | refine zN1 (fun hlen => ?_) | refine zN2 (fun hlen => ?_) | refine zAl (fun _ => ?_) | refine zAp (fun _ => ?_))
      refine zEl (hat) (rgTs_len _) ?_
      repeat (first | refine gG ?_ | refine zN1 (fun hlen => ?_) | refine zN2 (fun hlen => ?_) | refine zAl (fun _ => ?_) | refine zAp (fun _ => ?_))
      rename_i b9
      refine x_loop [7, 11, 12, 27, 28, 29, 30, 31, 32, 33, 34, 35, 36, 37, 38, 39, 40, 41, 42, 43, 44, 45, 46, 47, 48, 49, 50, 51] (fun y : Nat × Value => [(27, .c (.lit (.int .i64 (y.1 : Nat)))), (7, .own 0 y.2)]) (fun y => [.row y.2 32 2 (bothTo a b k y.1).length ((bothTo a b k y.1).flatMap rgTs), .box b9 32 [.c (.lit (.int .i64 x1)), .c (.lit (.int .i64 x2))]])
        (fun y => y.1 ≤ b.length) (fun y => b.length - y.1) (0, v) (Nat.zero_le _) ⟨rfl, rfl, trivial⟩ rfl ?_
      rintro ⟨j, u⟩ hj
      dsimp only at hj ⊢
      repeat (first | refine gG ?_ | refine zN1 (fun hlen => ?_) | refine zN2 (fun hlen => ?_) | refine zAl (fun _ => ?_) | refine zAp (fun _ => ?_))
      refine x_cond rfl (fun h => ?_) (fun h => ?_)
      · have hj' : j < b.length := by simpa using h
        obtain ⟨y, hy⟩ := nth hj'
        have hat2 := Rg.at hy
        have hnx := bothTo_next hx hy
        have hle := bothTo_len ha hb k j
        clear h hx hy hend
        generalize bothTo a b k j = o at *
        generalize hO : bothTo a b k (j + 1) = o' at *
        obtain ⟨y1, y2⟩ := y
        have hok : okR (meetR (x1, x2) (y1, y2)) = decide (max x1 y1 ≤ min x2 y2) := rfl
        rw [hok] at hnx
        have hone := rgs_one o (max x1 y1, min x2 y2)
        cases d2 : decide (max x1 y1 ≤ min x2 y2)
        · rw [d2, cond_false, List.append_nil] at hnx
          repeat (first | refine gG ?_ | refine zN1 (fun hlen => ?_) | refine zN2 (fun hlen => ?_) | refine zAl (fun _ => ?_) | refine zAp (fun _ => ?_))
          refine zIx (j) (hj') ?_
          repeat (first | refine gG ?_ | refine zN1 (fun hlen => ?_) | refine zN2 (fun hlen => ?_) | refine zAl (fun _ => ?_) | refine zAp (fun _ => ?_))
          refine zEl (hat2) (rgTs_len _) ?_
          repeat (first | refine gG ?_ | refine zN1 (fun hlen => ?_) | refine zN2 (fun hlen => ?_) | refine zAl (fun _ => ?_) | refine zAp (fun _ => ?_))
          refine zMax ?_
          repeat (first | refine gG ?_ | refine zN1 (fun hlen => ?_) | refine zN2 (fun hlen => ?_) | refine zAl (fun _ => ?_) | refine zAp (fun _ => ?_))
          refine zMin ?_
          repeat (first | refine gG ?_ | refine zN1 (fun hlen => ?_) | refine zN2 (fun hlen => ?_) | refine zAl (fun _ => ?_) | refine zAp (fun _ => ?_))
          exact ⟨(j + 1, _), hj', by simp only; omega, x_wkd 2 ⟨rfl, rfl, trivial⟩ (by dsimp only; rw [hO, hnx]; rfl) (by repeat (first | exact ag_refl | refine ag_upd rfl ?_ | refine ag_at rfl rfl ?_))⟩
        · rw [d2, cond_true] at hnx
          replace hnx : o' = o ++ [(max x1 y1, min x2 y2)] := hnx
          rw [← hnx] at hone
          repeat (first | refine gG ?_ | refine zN1 (fun hlen => ?_) | refine zN2 (fun hlen => ?_) | refine zAl (fun _ => ?_) | refine zAp (fun _ => ?_))
          refine zIx (j) (hj') ?_
          repeat (first | refine gG ?_ | refine zN1 (fun hlen => ?_) | refine zN2 (fun hlen => ?_) | refine zAl (fun _ => ?_) | refine zAp (fun _ => ?_))
          refine zEl (hat2) (rgTs_len _) ?_
          repeat (first | refine gG ?_ | refine zN1 (fun hlen => ?_) | refine zN2 (fun hlen => ?_) | refine zAl (fun _ => ?_) | refine zAp (fun _ => ?_))
          refine zMax ?_
          repeat (first | refine gG ?_ | refine zN1 (fun hlen => ?_) | refine zN2 (fun hlen => ?_) | refine zAl (fun _ => ?_) | refine zAp (fun _ => ?_))
          refine zMin ?_
          repeat (first | refine gG ?_ | refine zN1 (fun hlen => ?_) | refine zN2 (fun hlen => ?_) | refine zAl (fun _ => ?_) | refine zAp (fun _ => ?_))
          exact ⟨(j + 1, _), hj', by simp only; omega, x_wkd 2 ⟨rfl, rfl, trivial⟩ (by dsimp only; rw [hO, hone.1, hone.2]; rfl) (by repeat (first | exact ag_refl | refine ag_upd rfl ?_ | refine ag_at rfl rfl ?_))⟩
      · have hj' : j = b.length := by
          have : ¬ j < b.length := by simpa using h
          omega
        subst hj'
        rw [hend]
        clear h
        repeat (first | refine gG ?_ | refine zN1 (fun hlen => ?_) | refine zN2 (fun hlen => ?_) | refine zAl (fun _ => ?_) | refine zAp (fun _ => ?_))
        exact ⟨(k + 1, _), hk', by simp only; omega, x_wkd 1 ⟨rfl, rfl, trivial⟩ rfl (by repeat (first | exact ag_refl | refine ag_upd rfl ?_ | refine ag_at rfl rfl ?_))⟩
    · have hk' : k = a.length := by
        have : ¬ k < a.length := by simpa using h
        omega
      subst hk'
      rw [List.take_length]
      have hlm := limited_af (bothL a b)
      clear h
      generalize bothL a b = o at *
      generalize lim o = rr at *
      obtain ⟨ro, re⟩ := rr
      refine x_fz 7 rfl rfl rfl rfl ?_
      repeat (first | refine gG ?_ | refine zN1 (fun hlen => ?_) | refine zN2 (fun hlen => ?_) | refine zAl (fun _ => ?_) | refine zAp (fun _ => ?_))
      refine zCall (hlm) ?_
      rintro _ rfl
      repeat (first | refine gG ?_ | refine zN1 (fun hlen => ?_) | refine zN2 (fun hlen => ?_) | refine zAl (fun _ => ?_) | refine zAp (fun _ => ?_))
      first | refine zR (ts := [rgRow ro, .lit (.int .i64 re)]) ?_ | refine zQ (ts := [rgRow ro, .lit (.int .i64 re)]) ?_
      rfl
end Go.Proofs.Ytnkafjkcjpajgaa
namespace Go.Proofs.Ytnkafjkcjpajgaa
open Go.RowKit
def eitherV (a b : List Rg) : List Rg × Int := bif decide (faultTwo a b = 0) then setV (a ++ b) else ([], faultTwo a b)
set_option maxRecDepth 100000 in
set_option maxHeartbeats 1000000 in
theorem either_af (a b : List Rg) : AF Try.prog 19 [rgRow a, rgRow b] (· = resT (eitherV a b)) := by
  have hc := checkBoth_af a b
  have hf := @faultTwo_ok a b
  unfold eitherV
  generalize faultTwo a b = e at *
  cases d1 : decide (e = 0)
  · refine af_enter tok Try.func19 Try.ntmps19 Try.results19 rfl (by kernel_rfl) rfl rfl fun F hX => ?_
    repeat (first | refine gG ?_)
    refine zCall (hc) ?_
    rintro _ rfl
    repeat (first | refine gG ?_)
    first | refine zR (ts := [rgRow [], .lit (.int .i64 e)]) ?_ | refine zQ (ts := [rgRow [], .lit (.int .i64 e)]) ?_
    rfl
  · obtain rfl := of_decide_eq_true d1
    obtain ⟨⟨-, -, h1⟩, -, -, h2⟩ := hf rfl
    have hcat := catR2_af a b (by omega)
    have hset := set_af (a ++ b) (by rw [List.length_append]; omega)
    rw [cond_true]
    generalize setV (a ++ b) = rr at *
    obtain ⟨ro, re⟩ := rr
    clear hf
    refine af_enter tok Try.func19 Try.ntmps19 Try.results19 rfl (by kernel_rfl) rfl rfl fun F hX => ?_
    repeat (first | refine gG ?_)
    refine zCall (hc) ?_
    rintro _ rfl
    repeat (first | refine gG ?_)
    refine zCall (hcat) ?_
    rintro _ rfl
    repeat (first | refine gG ?_)
    refine zCall (hset) ?_
    rintro _ rfl
    repeat (first | refine gG ?_)
    first | refine zR (ts := [rgRow ro, .lit (.int .i64 re)]) ?_ | refine zQ (ts := [rgRow ro, .lit (.int .i64 re)]) ?_
    rfl
set_option maxRecDepth 100000 in
set_option maxHeartbeats 1000000 in
theorem bitN_af (bl : List Bool) (m : Nat) (b : Bool) (hm : m < 10001) (hb : bl[m]? = some b) : AF Try.prog 48 [.lit (.int .i64 (m : Nat)), .pin [.row 10001 1 (bl.map bT)] 0] (· = .lit (.bool (!b))) := by
  have g1 : (bl.map bT)[m * 1]? = some (.lit (.bool b)) := by rw [Nat.mul_one, List.getElem?_map, hb]; rfl
  refine af_enter tok Try.func48 Try.ntmps48 Try.results48 rfl (by kernel_rfl) rfl rfl fun F hX => ?_
  repeat (first | refine gG ?_)
  refine zIx m hm ?_
  repeat (first | refine gG ?_)
  refine zEl1 g1 ?_
  repeat (first | refine gG ?_)
  first | refine zR ?_ | refine zQ ?_
  rfl
theorem bitsN_fn {l : List Rg} {bl : List Bool} (h : BitsOf l bl) (n : Nat) (hn : n < 9999) : AF Try.prog 48 (.lit (.int .i64 ((n + 1 : Nat) : Int)) :: [.pin [.row 10001 1 (bl.map bT)] 0]) (· = .lit (.bool (!inB l ((n + 1 : Nat) : Int)))) :=
  bitN_af bl (n + 1) _ (by omega) (h.2 (n + 1) (by omega))
theorem not_runs {l : List Rg} (h : faultL l = 0) : runsTo (fun v => !inB l v) 9999 = notL l := by
  obtain ⟨h1, h2, -⟩ := faultL_ok h
  obtain ⟨h4, h5, h6⟩ := notL_ok l h1 h2
  refine runs_eq h4 h5 fun v a b => ?_
  rw [h6 v a b, ← inB_iff]
  cases inB l v <;> simp
set_option maxRecDepth 100000 in
set_option maxHeartbeats 4000000 in
theorem versionNot_af (l : List Rg) : AF Try.prog 18 [rgRow l] (· = resT (notV l)) := by
  have hc := fault_af l
  have hf := @faultL_ok l
  have hr := @not_runs l
  unfold notV
  generalize faultL l = e at *
  cases d1 : decide (e = 0)
  · refine af_enter tok Try.func18 Try.ntmps18 Try.results18 rfl (by kernel_rfl) rfl rfl fun F hX => ?_
    repeat (first | refine gG ?_ | refine zAl (fun _ => ?_))
    refine zCall (hc) ?_
    rintro _ rfl
    repeat (first | refine gG ?_ | refine zAl (fun _ => ?_))
    first | refine zR (ts := [rgRow [], .lit (.int .i64 e)]) ?_ | refine zQ (ts := [rgRow [], .lit (.int .i64 e)]) ?_
    rfl
  · obtain rfl := of_decide_eq_true d1
    obtain ⟨h1, h2, h3⟩ := hf rfl
    rw [cond_true, ← hr rfl]
    have hbit := bits_af l (fun r hr => rgOk_iff.2 ⟨(h2 r hr).1, (h2 r hr).2, h1.2 r hr⟩)
    have hran := fun bl (h : BitsOf l bl) => ranges_af (fun v => !inB l v) _ _ (bitsN_fn h)
    generalize lim (runsTo (fun v => !inB l v) 9999) = rr at *
    obtain ⟨ro, re⟩ := rr
    clear hf hr h1 h2 h3
    refine af_enter tok Try.func18 Try.ntmps18 Try.results18 rfl (by kernel_rfl) rfl rfl fun F hX => ?_
    repeat (first | refine gG ?_ | refine zAl (fun _ => ?_))
    refine zCall (hc) ?_
    rintro _ rfl
    repeat (first | refine gG ?_ | refine zAl (fun _ => ?_))
    refine zCall (hbit) ?_
    rintro _ ⟨bl, rfl, hb⟩
    replace hran := hran bl hb
    clear hbit hb hc
    repeat (first | refine gO ?_ | refine zAl (fun _ => ?_))
    refine x_frzb hX 5 [.row 10001 1 (bl.map bT)] ?_
    repeat (first | refine gG ?_ | refine zAl (fun _ => ?_))
    refine zCall (hran) ?_
    rintro _ rfl
    repeat (first | refine gG ?_ | refine zAl (fun _ => ?_))
    first | refine zR (ts := [rgRow ro, .lit (.int .i64 re)]) ?_ | refine zQ (ts := [rgRow ro, .lit (.int .i64 re)]) ?_
    rfl
def twoB (x y : List Rg) (both : Bool) (v : Int) : Bool := (inB x v && inB y v) || (!both && (inB x v || inB y v))
set_option maxRecDepth 100000 in
set_option maxHeartbeats 1000000 in
theorem bitT_af (xl yl : List Bool) (both : Bool) (m : Nat) (a b : Bool) (hm : m < 10001) (ha : xl[m]? = some a) (hb : yl[m]? = some b) : AF Try.prog 51 [.lit (.int .i64 (m : Nat)), .pin [.row 10001 1 (xl.map bT)] 0, .pin [.row 10001 1 (yl.map bT)] 0, .pin [.lit (.bool both)] 0] (· = .lit (.bool ((a && b) || (!both && (a || b))))) := by
  have g1 : (xl.map bT)[m * 1]? = some (.lit (.bool a)) := by rw [Nat.mul_one, List.getElem?_map, ha]; rfl
  have g2 : (yl.map bT)[m * 1]? = some (.lit (.bool b)) := by rw [Nat.mul_one, List.getElem?_map, hb]; rfl
  refine af_enter tok Try.func51 Try.ntmps51 Try.results51 rfl (by kernel_rfl) rfl rfl fun F hX => ?_
  clear ha hb
  cases a
  · cases both
    · repeat (first | refine gG ?_)
      refine zIx m hm ?_
      repeat (first | refine gG ?_)
      refine zEl1 g1 ?_
      repeat (first | refine gG ?_)
      refine zIx m hm ?_
      repeat (first | refine gG ?_)
      refine zEl1 g1 ?_
      repeat (first | refine gG ?_)
      refine zIx m hm ?_
      repeat (first | refine gG ?_)
      refine zEl1 g2 ?_
      repeat (first | refine gG ?_)
      first | refine zR ?_ | refine zQ ?_
      rfl
    · repeat (first | refine gG ?_)
      refine zIx m hm ?_
      repeat (first | refine gG ?_)
      refine zEl1 g1 ?_
      repeat (first | refine gG ?_)
      first | refine zR ?_ | refine zQ ?_
      rfl
  · cases b
    · cases both
      · repeat (first | refine gG ?_)
        refine zIx m hm ?_
        repeat (first | refine gG ?_)
        refine zEl1 g1 ?_
        repeat (first | refine gG ?_)
        refine zIx m hm ?_
        repeat (first | refine gG ?_)
        refine zEl1 g2 ?_
        repeat (first | refine gG ?_)
        refine zIx m hm ?_
        repeat (first | refine gG ?_)
        refine zEl1 g1 ?_
        repeat (first | refine gG ?_)
        first | refine zR ?_ | refine zQ ?_
        rfl
      · repeat (first | refine gG ?_)
        refine zIx m hm ?_
        repeat (first | refine gG ?_)
        refine zEl1 g1 ?_
        repeat (first | refine gG ?_)
        refine zIx m hm ?_
        repeat (first | refine gG ?_)
        refine zEl1 g2 ?_
        repeat (first | refine gG ?_)
        first | refine zR ?_ | refine zQ ?_
        rfl
    · repeat (first | refine gG ?_)
      refine zIx m hm ?_
      repeat (first | refine gG ?_)
      refine zEl1 g1 ?_
      repeat (first | refine gG ?_)
      refine zIx m hm ?_
      repeat (first | refine gG ?_)
      refine zEl1 g2 ?_
      repeat (first | refine gG ?_)
      first | refine zR ?_ | refine zQ ?_
      rfl
theorem bitsT_fn {x y : List Rg} {xl yl : List Bool} (hx : BitsOf x xl) (hy : BitsOf y yl) (both : Bool) (n : Nat) (hn : n < 9999) : AF Try.prog 51 (.lit (.int .i64 ((n + 1 : Nat) : Int)) :: [.pin [.row 10001 1 (xl.map bT)] 0, .pin [.row 10001 1 (yl.map bT)] 0, .pin [.lit (.bool both)] 0]) (· = .lit (.bool (twoB x y both ((n + 1 : Nat) : Int)))) :=
  bitT_af xl yl both (n + 1) _ _ (by omega) (hx.2 (n + 1) (by omega)) (hy.2 (n + 1) (by omega))
def twoV (x y : List Rg) (both : Bool) : List Rg × Int := bif decide (faultTwo x y = 0) then lim (runsTo (twoB x y both) 9999) else ([], faultTwo x y)
theorem inB_app (a b : List Rg) (v : Int) : inB (a ++ b) v = (inB a v || inB b v) := by simp [inB]
theorem two_either (a b : List Rg) : twoV a b false = eitherV a b := by
  unfold twoV eitherV setV
  cases d1 : decide (faultTwo a b = 0)
  · rfl
  · obtain ⟨⟨h1, h2, -⟩, h3, h4, -⟩ := faultTwo_ok (of_decide_eq_true d1)
    have hall : allOk (a ++ b) = true := allOk_iff.2 fun r hr => by
      rcases List.mem_append.1 hr with hr | hr
      · exact rgOk_iff.2 ⟨(h2 r hr).1, (h2 r hr).2, h1.2 r hr⟩
      · exact rgOk_iff.2 ⟨(h4 r hr).1, (h4 r hr).2, h3.2 r hr⟩
    rw [hall, show twoB a b false = inB (a ++ b) from funext fun v => by unfold twoB; rw [inB_app]; cases inB a v <;> cases inB b v <;> rfl]
    rfl
theorem two_both (a b : List Rg) : twoV a b true = bothV a b := by
  unfold twoV bothV
  cases d1 : decide (faultTwo a b = 0)
  · rfl
  · obtain ⟨⟨h1, h2, -⟩, h3, h4, -⟩ := faultTwo_ok (of_decide_eq_true d1)
    obtain ⟨h5, h6, h7⟩ := both_ok a b h1 h3 h2
    rw [runs_eq h5 h6 fun v _ _ => by
      rw [h7, ← inB_iff, ← inB_iff]
      unfold twoB
      cases inB a v <;> cases inB b v <;> simp]
set_option maxRecDepth 100000 in
set_option maxHeartbeats 4000000 in
theorem versionTwo_af (x y : List Rg) (both : Bool) : AF Try.prog 20 [rgRow x, rgRow y, .lit (.bool both)] (· = resT (twoV x y both)) := by
  have hx := fault_af x
  have hy := fault_af y
  have hf := @faultTwo_ok x y
  have hf0 : faultTwo x y = bif decide (faultL x = 0) then faultL y else faultL x := rfl
  unfold twoV
  generalize faultTwo x y = e at *
  generalize faultL x = e1 at *
  generalize faultL y = e2 at *
  cases d1 : decide (e1 = 0)
  · rw [d1] at hf0
    replace hf0 : e = e1 := hf0
    subst hf0
    rw [d1]
    clear hf
    refine af_enter tok Try.func20 Try.ntmps20 Try.results20 rfl (by kernel_rfl) rfl rfl fun F hX => ?_
    repeat (first | refine gG ?_ | refine zAl (fun _ => ?_) | refine zBx (fun _ => ?_))
    refine zCall (hx) ?_
    rintro _ rfl
    repeat (first | refine gG ?_ | refine zAl (fun _ => ?_) | refine zBx (fun _ => ?_))
    first | refine zR (ts := [rgRow [], .lit (.int .i64 e)]) ?_ | refine zQ (ts := [rgRow [], .lit (.int .i64 e)]) ?_
    rfl
  · rw [d1] at hf0
    replace hf0 : e = e2 := hf0
    subst hf0
    cases d2 : decide (e = 0)
    · clear hf
      refine af_enter tok Try.func20 Try.ntmps20 Try.results20 rfl (by kernel_rfl) rfl rfl fun F hX => ?_
      repeat (first | refine gG ?_ | refine zAl (fun _ => ?_) | refine zBx (fun _ => ?_))
      refine zCall (hx) ?_
      rintro _ rfl
      repeat (first | refine gG ?_ | refine zAl (fun _ => ?_) | refine zBx (fun _ => ?_))
      refine zCall (hy) ?_
      rintro _ rfl
      repeat (first | refine gG ?_ | refine zAl (fun _ => ?_) | refine zBx (fun _ => ?_))
      first | refine zR (ts := [rgRow [], .lit (.int .i64 e)]) ?_ | refine zQ (ts := [rgRow [], .lit (.int .i64 e)]) ?_
      rfl
    · obtain rfl := of_decide_eq_true d2
      obtain ⟨⟨h1, h2, -⟩, h3, h4, -⟩ := hf rfl
      rw [cond_true]
      have hbx := bits_af x (fun r hr => rgOk_iff.2 ⟨(h2 r hr).1, (h2 r hr).2, h1.2 r hr⟩)
      have hby := bits_af y (fun r hr => rgOk_iff.2 ⟨(h4 r hr).1, (h4 r hr).2, h3.2 r hr⟩)
      have hran := fun xl yl (hx : BitsOf x xl) (hy : BitsOf y yl) => ranges_af (twoB x y both) _ _ (bitsT_fn hx hy both)
      generalize lim (runsTo (twoB x y both) 9999) = rr at *
      obtain ⟨ro, re⟩ := rr
      clear hf h1 h2 h3 h4
      refine af_enter tok Try.func20 Try.ntmps20 Try.results20 rfl (by kernel_rfl) rfl rfl fun F hX => ?_
      repeat (first | refine gG ?_ | refine zAl (fun _ => ?_) | refine zBx (fun _ => ?_))
      refine zCall (hx) ?_
      rintro _ rfl
      repeat (first | refine gG ?_ | refine zAl (fun _ => ?_) | refine zBx (fun _ => ?_))
      refine zCall (hy) ?_
      rintro _ rfl
      repeat (first | refine gG ?_ | refine zAl (fun _ => ?_) | refine zBx (fun _ => ?_))
      refine zCall (hbx) ?_
      rintro _ ⟨xl, rfl, hxl⟩
      repeat (first | refine gG ?_ | refine zAl (fun _ => ?_) | refine zBx (fun _ => ?_))
      refine zCall (hby) ?_
      rintro _ ⟨yl, rfl, hyl⟩
      replace hran := hran xl yl hxl hyl
      clear hbx hby hxl hyl hx hy
      repeat (first | refine gO ?_ | refine zAl (fun _ => ?_) | refine zBx (fun _ => ?_))
      refine x_frzb hX 5 [.lit (.bool both)] ?_
      refine x_frzb hX 10 [.row 10001 1 (xl.map bT)] ?_
      refine x_frzb hX 11 [.row 10001 1 (yl.map bT)] ?_
      repeat (first | refine gG ?_ | refine zAl (fun _ => ?_) | refine zBx (fun _ => ?_))
      refine zCall (hran) ?_
      rintro _ rfl
      repeat (first | refine gG ?_ | refine zAl (fun _ => ?_) | refine zBx (fun _ => ?_))
      first | refine zR (ts := [rgRow ro, .lit (.int .i64 re)]) ?_ | refine zQ (ts := [rgRow ro, .lit (.int .i64 re)]) ?_
      rfl
theorem notV_len (l : List Rg) : (notV l).1.length ≤ 1048576 := by
  unfold notV
  cases decide (faultL l = 0)
  · exact Nat.zero_le _
  · exact lim_len _
theorem eitherV_len (a b : List Rg) : (eitherV a b).1.length ≤ 1048576 := by
  unfold eitherV
  cases decide (faultTwo a b = 0)
  · exact Nat.zero_le _
  · exact setV_len _
theorem bothV_len (a b : List Rg) : (bothV a b).1.length ≤ 1048576 := by
  unfold bothV
  cases decide (faultTwo a b = 0)
  · exact Nat.zero_le _
  · exact lim_len _
set_option maxRecDepth 100000 in
set_option maxHeartbeats 4000000 in
theorem versionAlgebra_law (a b : List Rg) (ha : a.length ≤ 1048576) (hb : b.length ≤ 1048576) : AF Try.prog 4 [rgRow a, rgRow b] (· = .lit (.bool true)) := by
  have h1 := Not_af a
  have h2 := pairs_af a ha
  have h3 := pairs_af b hb
  have h4 := versionNot_af a
  have h5 := either_af a b
  have h6 := versionTwo_af a b false
  rw [two_either] at h6
  have h7 := both_af a b
  have h8 := versionTwo_af a b true
  rw [two_both] at h8
  have h9 := same_af (notV a).1 (notV_len a)
  have h10 := same_af (eitherV a b).1 (eitherV_len a b)
  have h11 := same_af (bothV a b).1 (bothV_len a b)
  generalize notV a = r1 at *
  generalize eitherV a b = r2 at *
  generalize bothV a b = r3 at *
  obtain ⟨o1, e1⟩ := r1
  obtain ⟨o2, e2⟩ := r2
  obtain ⟨o3, e3⟩ := r3
  dsimp only at h9 h10 h11
  have q1 : decide (e1 = e1) = true := decide_eq_true rfl
  have q2 : decide (e2 = e2) = true := decide_eq_true rfl
  have q3 : decide (e3 = e3) = true := decide_eq_true rfl
  refine af_enter tok Try.func4 Try.ntmps4 Try.results4 rfl (by kernel_rfl) rfl rfl fun F hX => ?_
  repeat (first | refine gG ?_)
  refine zCall (h1) ?_
  rintro _ rfl
  repeat (first | refine gG ?_)
  refine zCall (h2) ?_
  rintro _ rfl
  repeat (first | refine gG ?_)
  refine zCall (h4) ?_
  rintro _ rfl
  repeat (first | refine gG ?_)
  refine zCall (h5) ?_
  rintro _ rfl
  repeat (first | refine gG ?_)
  refine zCall (h2) ?_
  rintro _ rfl
  repeat (first | refine gG ?_)
  refine zCall (h3) ?_
  rintro _ rfl
  repeat (first | refine gG ?_)
  refine zCall (h6) ?_
  rintro _ rfl
  repeat (first | refine gG ?_)
  refine zCall (h7) ?_
  rintro _ rfl
  repeat (first | refine gG ?_)
  refine zCall (h2) ?_
  rintro _ rfl
  repeat (first | refine gG ?_)
  refine zCall (h3) ?_
  rintro _ rfl
  repeat (first | refine gG ?_)
  refine zCall (h8) ?_
  rintro _ rfl
  repeat (first | refine gG ?_)
  refine zCall (h9) ?_
  rintro _ rfl
  repeat (first | refine gG ?_)
  refine zCall (h10) ?_
  rintro _ rfl
  repeat (first | refine gG ?_)
  refine zCall (h11) ?_
  rintro _ rfl
  repeat (first | refine gG ?_)
  first | refine zR ?_ | refine zQ ?_
  first | rfl | (rw [q3]; rfl)
end Go.Proofs.Ytnkafjkcjpajgaa
namespace Go.Proofs.Ytnkafjkcjpajgaa
open Go.ChangeShapes Go.WideShapes Go.ChangeAt Go.RowKit Go.Deep
section
variable {H : Type} {enc : TypeId × Value → H} {P : Program} {w : World} {base : Nat} {spare : Nat → Bool} {held : Bool}
theorem bulk_one (d : DataW H) : 1 ≤ Rows.uptoBulk d := by
  cases d with
  | lit l => cases l <;> simp [Rows.uptoBulk]
  | _ => simp [Rows.uptoBulk]
end
end Go.Proofs.Ytnkafjkcjpajgaa
namespace Go.Proofs.Ytnkafjkcjpajgaa
open Go.ChangeShapes Go.WideShapes Go.ChangeAt Go.RowKit
theorem own : ownKnob Try.prog.godebug = none := by kernel_rfl
theorem laidOut : laidOutB Try.prog = true := by kernel_rfl
section
variable {H : Type} {enc : TypeId × Value → H}
theorem trodAll_below {P : Program} (hl : laidOutB P = true) {W W' : World} (hb : Below W.heap.size W W') (ts : List TypeId) : ∀ (vs : List Value) (ds : List (DataW H)) (ps : List MemPlace),
    (ts.all fun t => P.readableRec t && decide (t < P.types.size)) = true → DataW.TrodAll enc P W 0 (fun _ => true) true ts vs ds ps → (∀ x ∈ ps, x.block < W.heap.size) →
    DataW.TrodAll enc P W' 0 (fun b => decide (b < W.heap.size)) true ts vs ds ps := by
  induction ts with
  | nil =>
    intro vs ds ps _ h _
    obtain ⟨rfl, rfl, rfl⟩ := trodAll_nil h
    rfl
  | cons t ts ih =>
    intro vs ds ps hr h hlt
    obtain ⟨v, vs', d, ds', p, q, rfl, rfl, rfl, h0, h1⟩ := trodAll_cons h
    simp only [List.all_cons, Bool.and_eq_true, decide_eq_true_eq] at hr
    refine ⟨p, q, Below.trod hl hr.1.1 hr.1.2 h0 hb fun x hx => hlt x (List.mem_append_left _ hx), ?_, rfl⟩
    exact ih vs' ds' q hr.2 h1 fun x hx => hlt x (List.mem_append_right _ hx)
theorem law_post {f : Func} {s : ChangeSpec} {W W' : World} {args : Array Value} {ds gs : List (DataW H)} {before : List MemPlace}
    (hW : DataW.Whole enc Try.prog f.params.toList s.vars false W args.toList ds gs before) (hv : s.vars = []) (hrt : f.resultTypes = #[4])
    (hr : (f.params.toList.all fun t => Try.prog.readableRec t && decide (t < Try.prog.types.size)) = true)
    (hres : (s.fn H (ds ++ gs)).results = [.lit (.bool true)]) (hargs : (s.fn H (ds ++ gs)).args = ds) (hvars : (s.fn H (ds ++ gs)).vars = []) (hb : Below W.heap.size W W') :
    s.post enc Try.prog f false true false false W args (.bool true) W' := by
  have hlt : ∀ p ∈ before, p.block < W.heap.size := fun p hp => hW.lt p hp
  have hW' := hW
  obtain ⟨p, q, hA, hV, rfl, _, _⟩ := hW'
  rw [hv] at hV
  obtain ⟨rfl, rfl⟩ := trodVars_none hV
  rw [List.append_nil] at hlt
  refine ⟨ds, [], _, [], p, [], hW, ?_, ?_, ?_, hb.frame _ |> World.keptBut_mono (fun x hx => ⟨hx, ?_⟩), fun h => by cases h⟩
  · rw [hrt, hres]
    exact trodAll_mk1 (shut_bool Try.underlying4 true)
  · rw [hargs]
    exact trodAll_below laidOut hb _ _ _ _ hr hA hlt
  · rw [hvars, hv]
    rfl
  · rw [List.append_nil] at hx
    exact .inr (.inl hx)
end
end Go.Proofs.Ytnkafjkcjpajgaa
namespace Go.Proofs.Ytnkafjkcjpajgaa
open Go.ChangeShapes Go.WideShapes Go.ChangeAt Go.RowKit Go.Deep
/-- all memory of a world -/
def memOf (w : World) : Mm := frz (fun _ => none) 0 w
theorem memOf_ok (w : World) : MemOk (memOf w) w := frz_ok (fun p v h => by cases h) 0
theorem memOf_at {w : World} {p : Addr} {v : Value} (h : w.cell? p = some v) (h1 : v.oneCell' = true) : memOf w p = some v := frz_new rfl (Nat.zero_le _) h h1
section
variable {H : Type} {enc : TypeId × Value → H} {P : Program} {w : World} {base : Nat} {spare : Nat → Bool} {held : Bool}
def Opens (enc : TypeId × Value → H) (P : Program) (w : World) (base : Nat) (spare : Nat → Bool) (held : Bool) (t : TypeId) {α : Type} (f : α → List T) (μ : α → Nat) (fuel : Nat) : Prop :=
  ∀ (cs : List Value) (x : DataW H × List MemPlace), DataW.trod enc P w base spare held fuel t cs = some x → ∃ a, RTs (memOf w) (f a) cs ∧ OneAll cs ∧ μ a ≤ Rows.uptoBulk x.1
theorem sum_le {α : Type} (μ : α → Nat) : ∀ (l : List α) (ds : List (DataW H)), l.length = ds.length → (∀ (i : Nat) (a : α) (d : DataW H), l[i]? = some a → ds[i]? = some d → μ a ≤ Rows.uptoBulk d) → (l.map μ).sum ≤ Rows.uptoBulkAll ds
  | [], [], _, _ => by simp [Rows.uptoBulkAll]
  | a :: l, d :: ds, hl, h => by
    have h1 := h 0 a d rfl rfl
    have h2 := sum_le μ l ds (by simpa using hl) fun i a d ha hd => h (i + 1) a d (by simpa using ha) (by simpa using hd)
    simp only [List.map_cons, List.sum_cons, Rows.uptoBulkAll]
    omega
  | [], _ :: _, hl, _ => by simp at hl
  | _ :: _, [], hl, _ => by simp at hl
theorem snoc_ind {α : Type} {p : List α → Prop} (h0 : p []) (h1 : ∀ l x, p l → p (l ++ [x])) (l : List α) : p l := by
  have : ∀ n (l : List α), l.length = n → p l := by
    intro n
    induction n with
    | zero => intro l hl; rw [List.eq_nil_of_length_eq_zero hl]; exact h0
    | succ n ih =>
      intro l hl
      have hne : l ≠ [] := fun e => by rw [e] at hl; cases hl
      rw [← List.dropLast_concat_getLast hne]
      exact h1 _ _ (ih _ (by simp [hl]))
  exact this l.length l rfl
theorem rows_of {α : Type} (f : α → List T) (sz : Nat) (hf : ∀ a, (f a).length = sz) {a : Addr} : ∀ (l : List α) (C : Nat → List Value), (∀ (i : Nat) (x : α), l[i]? = some x → RTs (memOf w) (f x) (C i) ∧ OneAll (C i) ∧ ∀ j u, (C i)[j]? = some u → w.cell? (a.add (i * sz + j)) = some u) →
    ∃ xs : List Value, xs.length = l.length * sz ∧ At (memOf w) a xs ∧ RTs (memOf w) (l.flatMap f) xs := by
  intro l
  induction l using snoc_ind with
  | h0 => exact fun _ _ => ⟨[], by simp, fun j x h => by simp at h, by simp [RTs]⟩
  | h1 l x ih =>
    intro C h
    obtain ⟨xs, h1, h2, h3⟩ := ih C fun i y hy => h i y (by rw [List.getElem?_append_left (List.getElem?_eq_some_iff.1 hy).1]; exact hy)
    obtain ⟨g1, g2, g3⟩ := h l.length x (by simp)
    have hcl := g1.len
    rw [hf] at hcl
    refine ⟨xs ++ C l.length, by simp [h1, hcl, Nat.add_mul], fun j u hu => ?_, ?_⟩
    · rw [List.getElem?_append] at hu
      split at hu
      · exact h2 j u hu
      · have := g3 _ u hu
        rw [show l.length * sz + (j - xs.length) = j by omega] at this
        exact memOf_at this (g2 u (List.mem_of_getElem? hu))
    · rw [List.flatMap_append]
      refine h3.app ?_
      simpa using g1
theorem opens_slice {α : Type} [Inhabited α] {t e : TypeId} (f : α → List T) (μ : α → Nat) (sz : Nat) (hsz : 0 < sz) (hf : ∀ a, (f a).length = sz) {fuel : Nat} (ht : P.underlying t = some (.slice e)) (hC : P.cellsOf e = sz)
    (hel : ∀ n, n < fuel → Opens enc P w base spare held e f μ n) : Opens enc P w base spare held t (fun l : List α => [.row l.length sz (l.flatMap f)]) (fun l => (l.map μ).sum + 1) fuel := by
  intro cs x h
  rcases DataW.trod_slice ht h with ⟨rfl, rfl⟩ | ⟨a, len, cap, elems, rest, n, hn, rfl, rfl, hb, hl, hm, hlen, hi, _, _⟩
  · refine ⟨[], ?_, fun u hu => by simp at hu; subst hu; rfl, by simp [Rows.uptoBulk]⟩
    simp only [RTs]
    exact ⟨_, _, rfl, rt_nil hsz (by simp only [RT]), rfl⟩
  · rw [hC] at hi
    have hv : ∀ i, i < len → ∃ p : α × List Value, (p.2.length = sz ∧ ∀ j u, p.2[j]? = some u → w.cell? (a.add (i * sz + j)) = some u) ∧ RTs (memOf w) (f p.1) p.2 ∧ OneAll p.2 ∧ ∀ y, elems[i]? = some y → μ p.1 ≤ Rows.uptoBulk y.1 := by
      intro i hil
      have hk := hi i hil
      rw [List.getElem?_eq_getElem (by omega)] at hk
      obtain ⟨cs', h1, h2⟩ := Option.bind_eq_some_iff.1 hk
      obtain ⟨el, h3, h4, h5⟩ := hel n (by omega) _ _ h2
      obtain ⟨_, hlen', hcell⟩ := World.cells?_some h1
      refine ⟨(el, cs'), ⟨hlen', fun j u hu => ?_⟩, h3, h4, fun y hy => ?_⟩
      · have hj : j < sz := by rw [← hlen']; exact (List.getElem?_eq_some_iff.1 hu).1
        rw [← hu, ← hcell j hj, add_add']
      · rw [List.getElem?_eq_getElem (by omega)] at hy
        injection hy with hy
        rw [← hy]; exact h5
    obtain ⟨G, hG⟩ := choose_lt (α := α × List Value) hv
    obtain ⟨xs, g1, g2, g3⟩ := rows_of (w := w) (a := a) f sz hf ((List.range len).map fun i => (G i).1) (fun i => (G i).2) (fun i x hx => by
      have hil : i < len := by have := (List.getElem?_eq_some_iff.1 hx).1; simpa using this
      simp [hil] at hx
      obtain ⟨k1, k2, k3, _⟩ := hG i hil
      rw [← hx]
      exact ⟨k2, k3, k1.2⟩)
    refine ⟨(List.range len).map fun i => (G i).1, ?_, fun u hu => by simp at hu; subst hu; rfl, ?_⟩
    · simp only [RTs]
      refine ⟨_, _, rfl, ?_, rfl⟩
      simp only [RT]
      exact ⟨some a, cap, xs, by simp, by simpa using hl, by simp; omega, hsz, g1, fun _ => ⟨a, rfl, g2⟩, g3⟩
    · have := sum_le μ ((List.range len).map fun i => (G i).1) (elems.map (·.1)) (by simp [hlen]) (fun i y d hy hd => by
        have hil : i < len := by have := (List.getElem?_eq_some_iff.1 hy).1; simpa using this
        simp [hil] at hy
        rw [List.getElem?_map] at hd
        obtain ⟨z, hz, rfl⟩ := Option.map_eq_some_iff.1 hd
        rw [← hy]
        exact (hG i hil).2.2.2 z hz)
      simp only [Rows.uptoBulk]
      omega
theorem opens_int {t : TypeId} {k : IntKind} {fuel : Nat} (ht : P.underlying t = some (.int k)) : Opens enc P w base spare held t (fun i : Int => [.lit (.int k i)]) (fun _ => 1) fuel := by
  intro cs x h
  obtain ⟨i, rfl, rfl, _⟩ := DataW.trod_int ht h
  exact ⟨i, by simp [RTs, RT], fun u hu => by simp at hu; subst hu; rfl, bulk_one _⟩
end
/-- from a walk to the call: every law that takes trees and tells true -/
theorem law_call {P : Program} {f : FuncId} {ts : List T} {vs : List Value} {W : World} (h : AF P f ts (· = .lit (.bool true))) (hv : RTs (memOf W) ts vs) (hG : Glob W := by first | assumption | (intro x h; simp [globTab] at h)) : Calls P f vs.toArray W fun e W' => e = .returned (.bool true) ∧ Below W.heap.size W W' :=
  (h.2 (memOf W) W vs hG (memOf_ok W) hv).mono fun e w' ⟨v, r, M', he, hr, _, _, hrt, hb⟩ => by
    subst hr
    simp only [RT] at hrt
    rw [he, hrt]
    exact ⟨rfl, hb⟩
end Go.Proofs.Ytnkafjkcjpajgaa
namespace Go.Proofs.Ytnkafjkcjpajgaa
open Go.RowKit
inductive V where
  | mk (kind num : Int) (text : ByteArray) (args : List V)
mutual
def V.ts : V → List T
  | .mk k n t l => [.lit (.int .i64 k), .lit (.int .i64 n), .lit (.string t), .row l.length 4 (V.all l)]
def V.all : List V → List T
  | [] => []
  | v :: r => v.ts ++ V.all r
end
theorem V.all_eq : ∀ l : List V, V.all l = l.flatMap V.ts
  | [] => rfl
  | v :: l => by rw [V.all, V.all_eq l]; rfl
theorem V.ts_len : ∀ v : V, v.ts.length = 4
  | .mk _ _ _ _ => rfl
def V.row (l : List V) : T := .row l.length 4 (V.all l)
def V.t (v : V) : T := .agg v.ts
mutual
def V.same : V → V → Bool
  | .mk k n t l, .mk k' n' t' l' => decide (k = k') && decide (n = n') && decide (t = t') && V.sames l l'
def V.sames : List V → List V → Bool
  | [], [] => true
  | v :: l, v' :: l' => v.same v' && V.sames l l'
  | _, _ => false
end
theorem V.at {l : List V} {k : Nat} {v : V} (h : l[k]? = some v) : ((V.all l).drop (k * 4)).take 4 = v.ts := by rw [V.all_eq]; exact flat_at V.ts 4 V.ts_len h
mutual
def V.size : V → Nat
  | .mk _ _ _ l => V.sizes l + 1
def V.sizes : List V → Nat
  | [] => 0
  | v :: r => v.size + V.sizes r
end
end Go.Proofs.Ytnkafjkcjpajgaa
namespace Go.Proofs.Ytnkafjkcjpajgaa
open Go.RowKit
def V.args : V → List V
  | .mk _ _ _ l => l
end Go.Proofs.Ytnkafjkcjpajgaa
namespace Go.Proofs.Ytnkafjkcjpajgaa
open Go.RowKit
inductive Y where
  | mk (kind : Int) (name : ByteArray) (args : List Y)
mutual
def Y.ts : Y → List T
  | .mk k n l => [.lit (.int .i64 k), .lit (.string n), .row l.length 3 (Y.all l)]
def Y.all : List Y → List T
  | [] => []
  | v :: r => v.ts ++ Y.all r
end
theorem Y.all_eq : ∀ l : List Y, Y.all l = l.flatMap Y.ts
  | [] => rfl
  | v :: l => by rw [Y.all, Y.all_eq l]; rfl
theorem Y.ts_len : ∀ v : Y, v.ts.length = 3
  | .mk _ _ _ => rfl
def Y.row (l : List Y) : T := .row l.length 3 (Y.all l)
def Y.t (v : Y) : T := .agg v.ts
theorem Y.at {l : List Y} {k : Nat} {v : Y} (h : l[k]? = some v) : ((Y.all l).drop (k * 3)).take 3 = v.ts := by rw [Y.all_eq]; exact flat_at Y.ts 3 Y.ts_len h
mutual
def Y.size : Y → Nat
  | .mk _ n l => Y.sizes l + n.size + 1
def Y.sizes : List Y → Nat
  | [] => 0
  | v :: r => v.size + Y.sizes r
end
instance : Inhabited Y := ⟨.mk 0 ⟨#[]⟩ []⟩
def Y.args : Y → List Y
  | .mk _ _ l => l
end Go.Proofs.Ytnkafjkcjpajgaa
namespace Go.Proofs.Ytnkafjkcjpajgaa
open Go.ChangeShapes Go.WideShapes Go.ChangeAt Go.RowKit Go.Deep
theorem listN2 {α : Type} {l : List α} (h : l.length = 2) : ∃ a b, l = [a, b] := match l, h with | [a, b], _ => ⟨a, b, rfl⟩
theorem rts_seg {M : Mm} {ts us : List T} {cs : List Value} {o c : Nat} (h : RTs M ts ((cs.drop o).take c)) (h' : RTs M us (cs.drop (o + c))) : RTs M (ts ++ us) (cs.drop o) := by
  have := h.app h'
  rwa [← List.drop_drop, List.take_append_drop] at this
theorem rts_end {M : Mm} {cs : List Value} {o : Nat} (h : cs.length = o) : RTs M [] (cs.drop o) := by rw [← h, List.drop_length]; simp [RTs]
theorem one_seg {cs : List Value} {o c : Nat} (h : OneAll ((cs.drop o).take c)) (h' : OneAll (cs.drop (o + c))) : OneAll (cs.drop o) := by
  have := h.app h'
  rwa [← List.drop_drop, List.take_append_drop] at this
theorem one_end {cs : List Value} {o : Nat} (h : cs.length = o) : OneAll (cs.drop o) := by rw [← h, List.drop_length]; intro x hx; simp at hx
end Go.Proofs.Ytnkafjkcjpajgaa
namespace Go.Proofs.Ytnkafjkcjpajgaa
open Go.ChangeShapes Go.WideShapes Go.ChangeAt Go.RowKit Go.Deep
theorem sumRg : ∀ l : List Rg, (l.map fun _ => 1).sum = l.length
  | [] => rfl
  | a :: l => by rw [List.map_cons, List.sum_cons, sumRg l, List.length_cons]; omega
section
variable {H : Type} {enc : TypeId × Value → H} {w : World} {base : Nat} {spare : Nat → Bool} {held : Bool}
theorem cn_Rg : Try.prog.cellsOf 32 = 2 := by kernel_rfl
theorem opensRg (fuel : Nat) : Opens enc Try.prog w base spare held 32 rgTs (fun _ => 1) fuel := by
  intro cs x h
  obtain ⟨ys, n, hn, rfl, hlen, hyl, hf⟩ := DataW.trod_struct Try.underlying32 h
  rw [cn_Rg] at hlen
  obtain ⟨y0, y1, rfl⟩ := listN2 hyl
  have f0 : DataW.trod enc Try.prog w base spare held n 3 ((cs.drop 0).take (Try.prog.cellsOf 3)) = some y0 := hf 0 _ rfl
  have f1 : DataW.trod enc Try.prog w base spare held n 3 ((cs.drop 1).take (Try.prog.cellsOf 3)) = some y1 := hf 1 _ rfl
  rw [show Try.prog.cellsOf 3 = 1 by kernel_rfl] at f0 f1
  obtain ⟨a0, r0, o0, m0⟩ := opens_int Try.underlying3 _ _ f0
  obtain ⟨a1, r1, o1, m1⟩ := opens_int Try.underlying3 _ _ f1
  refine ⟨(a0, a1), ?_, ?_, ?_⟩
  · have := rts_seg r0 (rts_seg r1 (rts_end hlen))
    simpa [rgTs] using this
  · have := one_seg o0 (one_seg o1 (one_end hlen))
    simpa using this
  · simp only [List.map_cons, List.map_nil, Rows.uptoBulk, Rows.uptoBulkAll] at m0 m1 ⊢
    omega
theorem opensRgl (fuel : Nat) : Opens enc Try.prog w base spare held 22 (fun l : List Rg => [rgRow l]) (fun l => l.length + 1) fuel := by
  have h := opens_slice (enc := enc) (P := Try.prog) (w := w) (base := base) (spare := spare) (held := held) (fuel := fuel) rgTs (fun _ => 1) 2 (by omega) rgTs_len Try.underlying22 cn_Rg (fun m _ => opensRg m)
  intro cs x hx
  obtain ⟨l, h1, h2, h3⟩ := h cs x hx
  dsimp only at h3
  rw [sumRg] at h3
  exact ⟨l, h1, h2, h3⟩
end
end Go.Proofs.Ytnkafjkcjpajgaa
