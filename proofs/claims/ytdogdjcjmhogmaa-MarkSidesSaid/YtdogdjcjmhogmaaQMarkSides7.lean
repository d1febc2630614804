/-
  Texts of this proof, part 7: Kmc Kmd Kme Kac.
-/
import Derived.Test.YtdogdjcjmhogmaaQMarkSides6
import Derived.Laws.IdiomRangeMap
import Derived.Lib.AppendZerosOnto
import Derived.Lib.MinMax
namespace Go.Proofs.Ytdogdjcjmhogmaa
open Go.RowKit
def posI (l : List Int) (s : Int) : Int := idxI (fun a => decide (s = a)) l
theorem spl_one1 {α : Type} (l : List α) (k : Nat) (v : α) : spl l (k * 1) [v] = l.set k v := by rw [Nat.mul_one]; rfl
theorem bo_set (m : List Bool) (i : Nat) (b : Bool) : spl (m.flatMap boTs) (i * 1) [T.lit (.bool b)] = (m.set i b).flatMap boTs := by
  rw [spl_one1]
  have h : ∀ l : List Bool, l.flatMap boTs = l.map fun b => T.lit (.bool b) := fun l => by
    induction l with
    | nil => rfl
    | cons a l ih => rw [List.flatMap_cons, ih]; rfl
  rw [h, h, List.map_set]
theorem bo_len (m : List Bool) : (m.flatMap boTs).length = m.length := by
  have := flat_len boTs 1 (fun _ => rfl) m
  omega
theorem vl_at {S : List (Value × List Int)} {i : Nat} {x : Value × List Int} (h : S[i]? = some x) : (vLits S)[i * 1]? = some (.lit x.1) := by
  unfold vLits
  rw [Nat.mul_one, List.getElem?_map, h]; rfl
theorem vl_len (S : List (Value × List Int)) : (vLits S).length = S.length := by simp [vLits]
theorem vl_set (S : List (Value × List Int)) (i : Nat) (x : Value × List Int) : (vLits S).set (i * 1) (.lit x.1) = vLits (S.set i x) := by
  unfold vLits
  rw [Nat.mul_one, List.map_set]
set_option maxRecDepth 100000 in
set_option maxHeartbeats 2000000 in
theorem marker_off (b : Nat) (l : List Int) (bg : Bool) (st : Int) (vm vw : Value) (s k : Int) (hp : posI l s = -1) : AG Try.prog 11 [.ptr 0 b 0, .c (.lit (.int .i64 s)), .c (.lit (.int .i64 k))] [sdB b l bg st vm vw] (fun r hs => r = .tup [.c (.lit (.bool false)), .c (.lit (.int .i64 4))] ∧ hs = [sdB b l bg st vm vw]) := by
  have hc := idxInt_af l s
  unfold posI at hp
  rw [hp] at hc
  refine ag_enter (1) tok Try.func11 Try.ntmps11 Try.results11 rfl (by kernel_rfl) rfl fun F => ?_
  repeat (first | refine gG ?_)
  refine zCall (hc) ?_
  rintro _ rfl
  repeat (first | refine gG ?_)
  refine zG ?_
  exact ⟨rfl, rfl⟩
set_option maxRecDepth 100000 in
set_option maxHeartbeats 2000000 in
theorem marker_old (b : Nat) (l : List Int) (bg : Bool) (st : Int) (vm vw : Value) (m : List Bool) (s k : Int) (i : Nat) (hp : posI l s = (i : Int)) (hm : m[i]? = some true) : AG Try.prog 11 [.ptr 0 b 0, .c (.lit (.int .i64 s)), .c (.lit (.int .i64 k))] [sdB b l bg st vm vw, mkB vm m] (fun r hs => r = .tup [.c (.lit (.bool false)), .c (.lit (.int .i64 5))] ∧ hs = [sdB b l bg st vm vw, mkB vm m]) := by
  have hc := idxInt_af l s
  unfold posI at hp
  rw [hp] at hc
  have d0 : decide (((i : Nat) : Int) < 0) = false := decide_eq_false (by omega)
  have hmt := bo_at hm
  have him : i < m.length := (List.getElem?_eq_some_iff.1 hm).1
  refine ag_enter (2) tok Try.func11 Try.ntmps11 Try.results11 rfl (by kernel_rfl) rfl fun F => ?_
  repeat (first | refine gG ?_)
  refine zCall (hc) ?_
  rintro _ rfl
  repeat (first | refine gG ?_)
  refine zIxo i him ?_
  repeat (first | refine gG ?_)
  refine zElo1 hmt ?_
  repeat (first | refine gG ?_)
  refine zG ?_
  exact ⟨rfl, rfl⟩
set_option maxRecDepth 100000 in
set_option maxHeartbeats 4000000 in
theorem marker_new (b : Nat) (l : List Int) (bg : Bool) (st : Int) (vm vw : Value) (m : List Bool) (s k : Int) (i : Nat) (hp : posI l s = (i : Int)) (hm : m[i]? = some false) : AG Try.prog 11 [.ptr 0 b 0, .c (.lit (.int .i64 s)), .c (.lit (.int .i64 k))] [sdB b l bg st vm vw, mkB vm m] (fun r hs => r = .tup [.c (.lit (.bool (!bg))), .c (.lit (.int .i64 0))] ∧ hs = [sdB b l true (if bg then st else k) vm vw, mkB vm (m.set i true)]) := by
  have hc := idxInt_af l s
  unfold posI at hp
  rw [hp] at hc
  have d0 : decide (((i : Nat) : Int) < 0) = false := decide_eq_false (by omega)
  have hmt := bo_at hm
  have him : i < m.length := (List.getElem?_eq_some_iff.1 hm).1
  have hse := bo_set m i true
  have hbl := bo_len m
  have hsl : (m.set i true).length = m.length := List.length_set
  have by_ := begin_yes b l st vm vw k
  have bn_ := begin_no b l st vm vw k
  refine ag_enter (2) tok Try.func11 Try.ntmps11 Try.results11 rfl (by kernel_rfl) rfl fun F => ?_
  repeat (first | refine gG ?_)
  refine zCall (hc) ?_
  rintro _ rfl
  repeat (first | refine gG ?_)
  refine zIxo i him ?_
  repeat (first | refine gG ?_)
  refine zElo1 hmt ?_
  repeat (first | refine gG ?_)
  refine zIxo i him ?_
  repeat (first | refine gG ?_)
  refine zSe hse (show i * 1 + 1 ≤ (m.flatMap boTs).length by rw [hbl]; omega) ?_
  cases bg
  · repeat (first | refine gG ?_)
    refine zCallG [0] bn_ ?_
    rintro _ _ ⟨rfl, rfl⟩
    refine ⟨_, _, re_refl, rfl, rfl, ?_⟩
    repeat (first | refine gG ?_)
    refine zG ?_
    exact ⟨rfl, by simp only [mkB, hsl]; rfl⟩
  · repeat (first | refine gG ?_)
    refine zCallG [0] by_ ?_
    rintro _ _ ⟨rfl, rfl⟩
    refine ⟨_, _, re_refl, rfl, rfl, ?_⟩
    repeat (first | refine gG ?_)
    refine zG ?_
    exact ⟨rfl, by simp only [mkB, hsl]; rfl⟩
set_option maxRecDepth 100000 in
set_option maxHeartbeats 2000000 in
theorem message_off (b : Nat) (l : List Int) (bg : Bool) (st : Int) (vm vw : Value) (s k : Int) (hp : posI l s = -1) : AG Try.prog 12 [.ptr 0 b 0, .c (.lit (.int .i64 s)), .c (.lit (.int .i64 k))] [sdB b l bg st vm vw] (fun r hs => r = .c (.lit (.int .i64 4)) ∧ hs = [sdB b l bg st vm vw]) := by
  have hc := idxInt_af l s
  unfold posI at hp
  rw [hp] at hc
  refine ag_enter (1) tok Try.func12 Try.ntmps12 Try.results12 rfl (by kernel_rfl) rfl fun F => ?_
  repeat (first | refine gG ?_ | refine zN1 (fun hlen => ?_) | refine zN2 (fun hlen => ?_) | refine zAp (fun _ => ?_))
  refine zCall (hc) ?_
  rintro _ rfl
  repeat (first | refine gG ?_ | refine zN1 (fun hlen => ?_) | refine zN2 (fun hlen => ?_) | refine zAp (fun _ => ?_))
  refine zG ?_
  exact ⟨rfl, rfl⟩
set_option maxRecDepth 100000 in
set_option maxHeartbeats 2000000 in
theorem message_idle (b : Nat) (l : List Int) (st : Int) (vm vw : Value) (s k : Int) (i : Nat) (hp : posI l s = (i : Int)) : AG Try.prog 12 [.ptr 0 b 0, .c (.lit (.int .i64 s)), .c (.lit (.int .i64 k))] [sdB b l false st vm vw] (fun r hs => r = .c (.lit (.int .i64 0)) ∧ hs = [sdB b l false st vm vw]) := by
  have hc := idxInt_af l s
  unfold posI at hp
  rw [hp] at hc
  have d0 : decide (((i : Nat) : Int) < 0) = false := decide_eq_false (by omega)
  refine ag_enter (1) tok Try.func12 Try.ntmps12 Try.results12 rfl (by kernel_rfl) rfl fun F => ?_
  repeat (first | refine gG ?_ | refine zN1 (fun hlen => ?_) | refine zN2 (fun hlen => ?_) | refine zAp (fun _ => ?_))
  refine zCall (hc) ?_
  rintro _ rfl
  repeat (first | refine gG ?_ | refine zN1 (fun hlen => ?_) | refine zN2 (fun hlen => ?_) | refine zAp (fun _ => ?_))
  refine zG ?_
  exact ⟨rfl, rfl⟩
set_option maxRecDepth 100000 in
set_option maxHeartbeats 2000000 in
theorem message_shut (b : Nat) (l : List Int) (st : Int) (vm vw : Value) (m : List Bool) (s k : Int) (i : Nat) (hp : posI l s = (i : Int)) (hm : m[i]? = some true) : AG Try.prog 12 [.ptr 0 b 0, .c (.lit (.int .i64 s)), .c (.lit (.int .i64 k))] [sdB b l true st vm vw, mkB vm m] (fun r hs => r = .c (.lit (.int .i64 0)) ∧ hs = [sdB b l true st vm vw, mkB vm m]) := by
  have hc := idxInt_af l s
  unfold posI at hp
  rw [hp] at hc
  have d0 : decide (((i : Nat) : Int) < 0) = false := decide_eq_false (by omega)
  have hmt := bo_at hm
  have him : i < m.length := (List.getElem?_eq_some_iff.1 hm).1
  refine ag_enter (2) tok Try.func12 Try.ntmps12 Try.results12 rfl (by kernel_rfl) rfl fun F => ?_
  repeat (first | refine gG ?_ | refine zN1 (fun hlen => ?_) | refine zN2 (fun hlen => ?_) | refine zAp (fun _ => ?_))
  refine zCall (hc) ?_
  rintro _ rfl
  repeat (first | refine gG ?_ | refine zN1 (fun hlen => ?_) | refine zN2 (fun hlen => ?_) | refine zAp (fun _ => ?_))
  refine zIxo i him ?_
  repeat (first | refine gG ?_ | refine zN1 (fun hlen => ?_) | refine zN2 (fun hlen => ?_) | refine zAp (fun _ => ?_))
  refine zElo1 hmt ?_
  repeat (first | refine gG ?_ | refine zN1 (fun hlen => ?_) | refine zN2 (fun hlen => ?_) | refine zAp (fun _ => ?_))
  refine zG ?_
  exact ⟨rfl, rfl⟩
set_option maxRecDepth 100000 in
set_option maxHeartbeats 4000000 in
theorem message_full (b : Nat) (l : List Int) (st : Int) (vm vw : Value) (m : List Bool) (S : List (Value × List Int)) (x : Value × List Int) (s k : Int) (i : Nat) (hp : posI l s = (i : Int)) (hm : m[i]? = some false) (hS : S[i]? = some x) (hx : x.2.length = 200) : AG Try.prog 12 [.ptr 0 b 0, .c (.lit (.int .i64 s)), .c (.lit (.int .i64 k))] [sdB b l true st vm vw, mkB vm m, owB vw S, inB x] (fun r hs => r = .c (.lit (.int .i64 6)) ∧ hs = [sdB b l true st vm vw, mkB vm m, owB vw S, inB x]) := by
  have hc := idxInt_af l s
  unfold posI at hp
  rw [hp] at hc
  have d0 : decide (((i : Nat) : Int) < 0) = false := decide_eq_false (by omega)
  have hmt := bo_at hm
  have him : i < m.length := (List.getElem?_eq_some_iff.1 hm).1
  have hat := vl_at hS
  have hiS : i < S.length := (List.getElem?_eq_some_iff.1 hS).1
  obtain ⟨v, x⟩ := x
  dsimp only at hx hat ⊢
  have d1 : decide (((x.length : Nat) : Int) = 200) = true := decide_eq_true (by omega)
  clear hS
  refine ag_enter (4) tok Try.func12 Try.ntmps12 Try.results12 rfl (by kernel_rfl) rfl fun F => ?_
  repeat (first | refine gG ?_ | refine zN1 (fun hlen => ?_) | refine zN2 (fun hlen => ?_) | refine zAp (fun _ => ?_))
  refine zCall (hc) ?_
  rintro _ rfl
  repeat (first | refine gG ?_ | refine zN1 (fun hlen => ?_) | refine zN2 (fun hlen => ?_) | refine zAp (fun _ => ?_))
  refine zIxo i him ?_
  repeat (first | refine gG ?_ | refine zN1 (fun hlen => ?_) | refine zN2 (fun hlen => ?_) | refine zAp (fun _ => ?_))
  refine zElo1 hmt ?_
  repeat (first | refine gG ?_ | refine zN1 (fun hlen => ?_) | refine zN2 (fun hlen => ?_) | refine zAp (fun _ => ?_))
  refine zIxo i hiS ?_
  repeat (first | refine gG ?_ | refine zN1 (fun hlen => ?_) | refine zN2 (fun hlen => ?_) | refine zAp (fun _ => ?_))
  refine lo_as 3 (zElo1 hat ⟨_, _, _, _, _, rfl, rfl, ?_⟩)
  repeat (first | refine gG ?_ | refine zN1 (fun hlen => ?_) | refine zN2 (fun hlen => ?_) | refine zAp (fun _ => ?_))
  refine zG ?_
  exact ⟨rfl, rfl⟩
set_option maxRecDepth 100000 in
set_option maxHeartbeats 4000000 in
theorem message_put (b : Nat) (l : List Int) (st : Int) (vm vw : Value) (m : List Bool) (S : List (Value × List Int)) (x : Value × List Int) (s k : Int) (i : Nat) (hp : posI l s = (i : Int)) (hm : m[i]? = some false) (hS : S[i]? = some x) (hx : x.2.length < 200) : AG Try.prog 12 [.ptr 0 b 0, .c (.lit (.int .i64 s)), .c (.lit (.int .i64 k))] [sdB b l true st vm vw, mkB vm m, owB vw S, inB x] (fun r hs => ∃ v', r = .c (.lit (.int .i64 0)) ∧ hs = [sdB b l true st vm vw, mkB vm m, owB vw (S.set i (v', x.2 ++ [k])), inB (v', x.2 ++ [k])]) := by
  have hc := idxInt_af l s
  unfold posI at hp
  rw [hp] at hc
  have d0 : decide (((i : Nat) : Int) < 0) = false := decide_eq_false (by omega)
  have hmt := bo_at hm
  have him : i < m.length := (List.getElem?_eq_some_iff.1 hm).1
  have hat := vl_at hS
  have hiS : i < S.length := (List.getElem?_eq_some_iff.1 hS).1
  have hvl := vl_len S
  obtain ⟨v, x⟩ := x
  dsimp only at hx hat ⊢
  have d1 : decide (((x.length : Nat) : Int) = 200) = false := decide_eq_false (by omega)
  have hset := fun v' => vl_set S i (v', x ++ [k])
  have hsl : ∀ v' : Value, (S.set i (v', x ++ [k])).length = S.length := fun v' => List.length_set
  clear hS
  refine ag_enter (4) tok Try.func12 Try.ntmps12 Try.results12 rfl (by kernel_rfl) rfl fun F => ?_
  repeat (first | refine gG ?_ | refine zN1 (fun hlen => ?_) | refine zN2 (fun hlen => ?_) | refine zAp (fun _ => ?_))
  refine zCall (hc) ?_
  rintro _ rfl
  repeat (first | refine gG ?_ | refine zN1 (fun hlen => ?_) | refine zN2 (fun hlen => ?_) | refine zAp (fun _ => ?_))
  refine zIxo i him ?_
  repeat (first | refine gG ?_ | refine zN1 (fun hlen => ?_) | refine zN2 (fun hlen => ?_) | refine zAp (fun _ => ?_))
  refine zElo1 hmt ?_
  repeat (first | refine gG ?_ | refine zN1 (fun hlen => ?_) | refine zN2 (fun hlen => ?_) | refine zAp (fun _ => ?_))
  refine zIxo i hiS ?_
  repeat (first | refine gG ?_ | refine zN1 (fun hlen => ?_) | refine zN2 (fun hlen => ?_) | refine zAp (fun _ => ?_))
  refine lo_as 3 (zElo1 hat ⟨_, _, _, _, _, rfl, rfl, ?_⟩)
  repeat (first | refine gG ?_ | refine zN1 (fun hlen => ?_) | refine zN2 (fun hlen => ?_) | refine zAp (fun _ => ?_))
  refine x_row 2 rfl (by omega) (fun hv => ?_)
  refine ac_drawT [0, 0, 0, 3, 0, 1, 1, 1, 1, 1, 1, 1, 1, 1, 2, 0, 2] (.fork [0, 1, 2, 4, 5, 6, 7, 8, 9, 10, 11, 12, 13] 3 (.fin [14, 15, 16]) 14 (.fin [3, 15, 16])) (by kernel_rfl) (by kernel_rfl) ?_
  refine wt_fork ?_
  refine gW ?_
  apply w_q; (focus exact rfl); (focus exact rfl); focus (intro _; (refine zIxo i hiS ?_); exact det_refl)
  apply w_q; (focus exact rfl); (focus exact rfl); focus (intro _; (refine lo_as 3 (zElo1 hat ⟨_, _, _, _, _, rfl, rfl, ?_⟩)); exact det_refl)
  refine gW ?_
  refine w_nil ?_
  refine ⟨?_, ?_⟩
  · apply w_a; (focus exact rfl); (focus exact rfl); refine zL1 ⟨⟨[], rfl⟩, ?_⟩
    refine w_nil ?_
    refine wt_fin ?_
    apply w_l; (focus exact rfl); (focus exact rfl); (refine zAp (fun _ => ?_))
    apply w_p; (focus exact rfl); (focus exact rfl); focus (intro _; (refine zIxp i hv hiS ?_); exact det_refl)
    apply w_l; (focus exact rfl); (focus exact rfl); (refine zSeo (show i * 1 + 1 ≤ (vLits S).length by rw [hvl]; omega) ?_)
    refine w_nil ?_
    rename_i v'
    repeat (first | refine ac_seq ?_ | refine ac_block ?_ | refine ac_region ?_ | refine ac_skip ?_ | refine ac_ret ?_ | refine gG ?_)
    refine zG ?_
    refine ⟨v', rfl, ?_⟩
    rw [hset]
    simp only [hsl, owB, inB, List.length_append, List.length_cons, List.length_nil, List.flatMap_append, List.flatMap_cons, List.flatMap_nil, List.append_nil]
    rfl
      
  · apply w_l; (focus exact rfl); (focus exact rfl); (refine zAp (fun _ => ?_))
    refine w_nil ?_
    refine wt_fin ?_
    apply w_a; (focus exact rfl); (focus exact rfl); refine zL1 ⟨⟨[], rfl⟩, ?_⟩
    apply w_p; (focus exact rfl); (focus exact rfl); focus (intro _; (refine zIxp i hv hiS ?_); exact det_refl)
    apply w_l; (focus exact rfl); (focus exact rfl); (refine zSeo (show i * 1 + 1 ≤ (vLits S).length by rw [hvl]; omega) ?_)
    refine w_nil ?_
    rename_i v'
    repeat (first | refine ac_seq ?_ | refine ac_block ?_ | refine ac_region ?_ | refine ac_skip ?_ | refine ac_ret ?_ | refine gG ?_)
    refine zG ?_
    refine ⟨v', rfl, ?_⟩
    rw [hset]
    simp only [hsl, owB, inB, List.length_append, List.length_cons, List.length_nil, List.flatMap_append, List.flatMap_cons, List.flatMap_nil, List.append_nil]
    rfl
end Go.Proofs.Ytdogdjcjmhogmaa
namespace Go.Proofs.Ytdogdjcjmhogmaa
open Go.RowKit
theorem perm3 {α : Type} (a b c d : α) (l : List α) : (a :: b :: c :: d :: l).Perm (a :: b :: c :: (l ++ [d])) := ((List.perm_append_comm (l₂ := l) (l₁ := [d])).cons _).cons _ |>.cons _
def rowsT (S : List (Value × List Int)) : List T := S.map fun x => intRow x.2
theorem rowsT_snoc {S : List (Value × List Int)} {k : Nat} {x : Value × List Int} (h : S[k]? = some x) : rowsT (S.take (k + 1)) = rowsT (S.take k) ++ [intRow x.2] := by
  obtain ⟨h1, rfl⟩ := List.getElem?_eq_some_iff.1 h
  unfold rowsT
  rw [List.take_succ_eq_append_getElem h1, List.map_append]; rfl
theorem take_len1 {α : Type} {l : List α} {k : Nat} (h : k < l.length) : (l.take (k + 1)).length = (l.take k).length + 1 := by rw [List.length_take, List.length_take]; omega
set_option maxRecDepth 100000 in
set_option maxHeartbeats 2000000 in
theorem tell_no (b : Nat) (l : List Int) (bg : Bool) (st : Int) (vm vw : Value) (m : List Bool) (h : (bg && !(m.any fun a => !a)) = false) : AG Try.prog 13 [.ptr 0 b 0] [sdB b l bg st vm vw, mkB vm m] (fun r hs => r = .tup [.c (.lit (.int .i64 0)), .c (.lit (.slice none 0 0)), .c (.lit (.int .i64 8))] ∧ hs = [sdB b l bg st vm vw, mkB vm m]) := by
  have hc := hasFalse_af m
  cases bg
  · clear h hc
    refine ag_enter (2) tok Try.func13 Try.ntmps13 Try.results13 rfl (by kernel_rfl) rfl fun F => ?_
    repeat (first | refine gG ?_ | refine zN1 (fun hlen => ?_) | refine zN2 (fun hlen => ?_) | refine zAp (fun _ => ?_))
    refine zG ?_
    exact ⟨rfl, rfl⟩
  · have h2 : (m.any fun a => !a) = true := by simpa using h
    rw [h2] at hc
    clear h h2
    refine ag_enter (2) tok Try.func13 Try.ntmps13 Try.results13 rfl (by kernel_rfl) rfl fun F => ?_
    repeat (first | refine gG ?_ | refine zN1 (fun hlen => ?_) | refine zN2 (fun hlen => ?_) | refine zAp (fun _ => ?_))
    refine zPeek (hc) ?_
    rintro _ rfl
    refine ⟨rfl, ?_⟩
    repeat (first | refine gG ?_ | refine zN1 (fun hlen => ?_) | refine zN2 (fun hlen => ?_) | refine zAp (fun _ => ?_))
    refine zG ?_
    exact ⟨rfl, rfl⟩
set_option maxRecDepth 100000 in
set_option maxHeartbeats 4000000 in
theorem tell_yes (b : Nat) (l : List Int) (st : Int) (vm vw : Value) (m : List Bool) (S : List (Value × List Int)) (h : (m.any fun a => !a) = false) (h8 : S.length ≤ 8) (h200 : ∀ x ∈ S, x.2.length ≤ 200) : AG Try.prog 13 [.ptr 0 b 0] (sdB b l true st vm vw :: mkB vm m :: owB vw S :: S.map inB) (fun r hs => r = .tup [.c (.lit (.int .i64 st)), .c (.row S.length 1 (rowsT S)), .c (.lit (.int .i64 0))] ∧ hs = sdB b l true st vm vw :: mkB vm m :: owB vw S :: S.map inB) := by
  have hc := hasFalse_af m
  rw [h] at hc
  clear h
  refine ag_enter (3 + S.length) tok Try.func13 Try.ntmps13 Try.results13 rfl (by kernel_rfl) rfl fun F => ?_
  repeat (first | refine gG ?_ | refine zN1 (fun hlen => ?_) | refine zN2 (fun hlen => ?_) | refine zAp (fun _ => ?_))
  refine zPeek (hc) ?_
  rintro _ rfl
  refine ⟨rfl, ?_⟩
  repeat (first | refine gG ?_ | refine zN1 (fun hlen => ?_) | refine zN2 (fun hlen => ?_) | refine zAp (fun _ => ?_))
  refine x_ownP 5 22 1 3 (hp' := sdB b l true st vm vw :: mkB vm m :: owB vw S :: .row (.slice none 0 0) 22 1 0 [] :: S.map inB) (((List.perm_append_comm (l₁ := S.map inB)).cons _).cons _ |>.cons _) ?_
  refine x_loop [5, 7, 25, 26, 27, 28, 29, 30, 31, 32, 33, 34] (fun y : Nat × Value => [(25, .c (.lit (.int .i64 (y.1 : Nat)))), (5, .own 3 y.2)]) (fun y => sdB b l true st vm vw :: mkB vm m :: owB vw S :: .row y.2 22 1 (S.take y.1).length (rowsT (S.take y.1)) :: S.map inB) (fun y => y.1 ≤ S.length) (fun y => S.length - y.1) (0, .slice none 0 0) (Nat.zero_le _) ⟨rfl, rfl, trivial⟩ rfl ?_
  rintro ⟨k, v⟩ hk
  dsimp only at hk ⊢
  repeat (first | refine gG ?_ | refine zN1 (fun hlen => ?_) | refine zN2 (fun hlen => ?_) | refine zAp (fun _ => ?_))
  refine x_cond rfl (fun h => ?_) (fun h => ?_)
  · have hk' : k < S.length := by simpa using h
    obtain ⟨x, hx⟩ := nth hk'
    have hat := vl_at hx
    have hrow := fam_at inB hx
    have hC := cloneInt_ag x.2 (by have := h200 x (List.mem_of_getElem? hx); omega)
    have hsn := rowsT_snoc hx
    have hl1 := take_len1 hk'
    have hle : (S.take k).length ≤ 8 := by rw [List.length_take]; omega
    clear h hx h200
    obtain ⟨xv, x⟩ := x
    dsimp only at hat hrow hC hsn
    repeat (first | refine gG ?_ | refine zN1 (fun hlen => ?_) | refine zN2 (fun hlen => ?_) | refine zAp (fun _ => ?_))
    refine zIxo k hk' ?_
    repeat (first | refine gG ?_ | refine zN1 (fun hlen => ?_) | refine zN2 (fun hlen => ?_) | refine zAp (fun _ => ?_))
    refine lo_as (k + 4) (zElo1 hat ⟨_, _, _, _, _, rfl, hrow, ?_⟩)
    repeat (first | refine gG ?_ | refine zN1 (fun hlen => ?_) | refine zN2 (fun hlen => ?_) | refine zAp (fun _ => ?_))
    refine zPeekC hC (fun r hs h => h) (flat_ints x) ?_ rfl (rz2s_cons (rz2_own (rz_own hrow)) rz2s_nil)
    repeat (first | refine gG ?_ | refine zN1 (fun hlen => ?_) | refine zN2 (fun hlen => ?_) | refine zAp (fun _ => ?_))
    refine zApS (fun v' => ?_)
    repeat (first | refine gG ?_ | refine zN1 (fun hlen => ?_) | refine zN2 (fun hlen => ?_) | refine zAp (fun _ => ?_))
    refine ⟨(k + 1, v'), hk', by simp only; omega, x_wk ⟨rfl, rfl, trivial⟩ ?_ (by repeat (first | exact ag_refl | refine ag_upd rfl ?_ | refine ag_at rfl rfl ?_))⟩
    simp only [hl1, hsn]
    rfl
  · have hk' : k = S.length := by have : ¬ k < S.length := by simpa using h
                                  omega
    subst hk'
    rw [List.take_length]
    refine x_fzS 5 ?_ rfl rfl
    refine x_perm (hp' := sdB b l true st vm vw :: mkB vm m :: owB vw S :: (S.map inB ++ [Blk.dead])) (perm3 _ _ _ _ _) ?_
    repeat (first | refine gG ?_ | refine zN1 (fun hlen => ?_) | refine zN2 (fun hlen => ?_) | refine zAp (fun _ => ?_))
    refine zGS (hq := sdB b l true st vm vw :: mkB vm m :: owB vw S :: S.map inB) ?_ ⟨rfl, rfl⟩
    have e : 3 + S.length = (sdB b l true st vm vw :: mkB vm m :: owB vw S :: S.map inB).length := by simp; omega
    rw [e]
    exact List.take_left (l₂ := [Blk.dead])
end Go.Proofs.Ytdogdjcjmhogmaa
namespace Go.Proofs.Ytdogdjcjmhogmaa
open Go.RowKit
structure MSt where
  k : Nat
  bg : Bool
  st : Int
  m : List Bool
  S : List (Value × List Int)
  ov : List Int
  W : List (Int × (Value × List Int))
def ovM (ov : List Int) : List (Int × T) := ov.map fun p => (p, .lit (.bool true))
def wayM (W : List (Int × (Value × List Int))) : List (Int × T) := W.map fun e => (e.1, .lit e.2.1)
def wget (p : Int) : List (Int × (Value × List Int)) → List Int
  | [] => []
  | e :: W => if p = e.1 then e.2.2 else wget p W
theorem ov_get (p : Int) : ∀ ov : List Int, mget p (ovM ov) = if p ∈ ov then some (.lit (.bool true)) else none
  | [] => rfl
  | q :: ov => by
    show mget p ((q, T.lit (.bool true)) :: ovM ov) = _
    rw [mget, ov_get p ov]
    by_cases h : p = q
    · simp [h]
    · simp [h]
theorem ov_put {p : Int} : ∀ {ov : List Int}, p ∉ ov → mput p (.lit (.bool true)) (ovM ov) = ovM (ov ++ [p])
  | [], _ => rfl
  | q :: ov, h => by
    show mput p (.lit (.bool true)) ((q, T.lit (.bool true)) :: ovM ov) = _
    have h1 : p ≠ q := fun e => h (by rw [e]; exact List.mem_cons_self)
    rw [mput, if_neg h1, ov_put fun hm => h (List.mem_cons_of_mem _ hm)]
    rfl
theorem wcase (p : Int) : ∀ W : List (Int × (Value × List Int)),
    (mget p (wayM W) = none ∧ wget p W = [] ∧ (∀ (v : Value) (x : List Int), mput p (.lit v) (wayM W) = wayM (W ++ [(p, (v, x))])) ∧ ∀ (q : Int) (z : Value × List Int), wget q (W ++ [(p, z)]) = if q = p then z.2 else wget q W) ∨
    ∃ (j : Nat) (e : Int × (Value × List Int)), W[j]? = some e ∧ mget p (wayM W) = some (.lit e.2.1) ∧ wget p W = e.2.2 ∧ (∀ (v : Value) (x : List Int), mput p (.lit v) (wayM W) = wayM (W.set j (p, (v, x)))) ∧ ∀ (q : Int) (z : Value × List Int), wget q (W.set j (p, z)) = if q = p then z.2 else wget q W
  | [] => .inl ⟨rfl, rfl, fun _ _ => rfl, fun q z => by simp only [List.nil_append, wget]⟩
  | e :: W => by
    by_cases h : p = e.1
    · refine .inr ⟨0, e, rfl, ?_, ?_, fun v x => ?_, fun q z => ?_⟩
      · show mget p ((e.1, T.lit e.2.1) :: wayM W) = _
        rw [mget, if_pos h]
      · rw [wget, if_pos h]
      · show mput p (.lit v) ((e.1, T.lit e.2.1) :: wayM W) = _
        rw [mput, if_pos h]; rfl
      · simp only [List.set_cons_zero, wget]
        by_cases hq : q = p
        · simp [hq]
        · simp [hq, show q ≠ e.1 from fun e' => hq (e'.trans h.symm)]
    · rcases wcase p W with ⟨h1, h2, h3, h4⟩ | ⟨j, e', h0, h1, h2, h3, h4⟩
      · refine .inl ⟨?_, ?_, fun v x => ?_, fun q z => ?_⟩
        · show mget p ((e.1, T.lit e.2.1) :: wayM W) = _
          rw [mget, if_neg h, h1]
        · rw [wget, if_neg h, h2]
        · show mput p (.lit v) ((e.1, T.lit e.2.1) :: wayM W) = _
          rw [mput, if_neg h, h3 v x]; rfl
        · simp only [List.cons_append, wget, h4]
          by_cases hq : q = p
          · simp [hq, h]
          · simp [hq]
      · refine .inr ⟨j + 1, e', by simpa using h0, ?_, ?_, fun v x => ?_, fun q z => ?_⟩
        · show mget p ((e.1, T.lit e.2.1) :: wayM W) = _
          rw [mget, if_neg h, h1]
        · rw [wget, if_neg h, h2]
        · show mput p (.lit v) ((e.1, T.lit e.2.1) :: wayM W) = _
          rw [mput, if_neg h, h3 v x]; rfl
        · simp only [List.set_cons_succ, wget, h4]
          by_cases hq : q = p
          · simp [hq, h]
          · simp [hq]
theorem posI_none {l : List Int} {p : Int} (h : p ∉ l) : posI l p = -1 := by
  have := idxI_any (fun a => decide (p = a)) l
  have hz : (l.any fun a => decide (p = a)) = false := by
    cases hz : l.any fun a => decide (p = a) with
    | false => rfl
    | true => exact absurd (any_iff.1 hz) h
  rw [hz] at this
  unfold posI
  rcases idxI_find (fun a => decide (p = a)) l with ⟨h1, _⟩ | ⟨k, m, h1, _⟩
  · exact h1
  · rw [h1] at this; simp at this
theorem posI_some {l : List Int} {p : Int} (h : p ∈ l) : ∃ i : Nat, posI l p = (i : Int) ∧ l[i]? = some p := by
  unfold posI
  rcases idxI_find (fun a => decide (p = a)) l with ⟨_, h1⟩ | ⟨k, m, h1, h2, h3, h4⟩
  · rw [List.find?_eq_none] at h1
    exact absurd (decide_eq_true rfl) (h1 p h)
  · have := List.find?_some h4
    exact ⟨k, h1, by rw [h3, ← of_decide_eq_true this]⟩
structure MInv (l : List Int) (n : Nat) (y : MSt) : Prop where
  kn : y.k ≤ n
  ml : y.m.length = l.length
  sl : y.S.length = l.length
  mo : ∀ {i : Nat} {p : Int}, l[i]? = some p → y.m[i]? = some (decide (p ∈ y.ov))
  os : ∀ p ∈ y.ov, p ∈ l
  on : y.ov.Nodup
  sw : ∀ {i : Nat} {p : Int} {x : Value × List Int}, l[i]? = some p → y.S[i]? = some x → x.2 = wget p y.W
  s2 : ∀ x ∈ y.S, x.2.length ≤ 200
theorem minv_0 (l : List Int) (n : Nat) : MInv l n ⟨0, false, 0, List.replicate l.length false, nils l.length, [], []⟩ := by
  refine ⟨Nat.zero_le _, by simp, by simp [nils], fun {i p} h => ?_, fun p h => by simp at h, List.nodup_nil, fun {i p x} _ hx => ?_, fun x hx => ?_⟩
  · have := (List.getElem?_eq_some_iff.1 h).1
    simp [List.getElem?_replicate, this]
  · have := List.mem_of_getElem? hx
    simp only [nils] at this
    rw [List.eq_of_mem_replicate this]; rfl
  · simp only [nils] at hx
    rw [List.eq_of_mem_replicate hx]; simp
theorem minv_begin {l : List Int} {n : Nat} {y : MSt} (h : MInv l n y) (bg : Bool) (st : Int) : MInv l n { y with bg := bg, st := st } := ⟨h.kn, h.ml, h.sl, h.mo, h.os, h.on, h.sw, h.s2⟩
theorem nodup_at {l : List Int} (hn : l.Nodup) {i j : Nat} {p : Int} (hi : l[i]? = some p) (hj : l[j]? = some p) : i = j := by
  obtain ⟨h1, h2⟩ := List.getElem?_eq_some_iff.1 hi
  obtain ⟨h3, h4⟩ := List.getElem?_eq_some_iff.1 hj
  have := List.pairwise_iff_getElem.1 hn
  rcases Nat.lt_trichotomy i j with h | h | h
  · exact absurd (h2.trans h4.symm) (this i j h1 h3 h)
  · exact h
  · exact absurd (h4.trans h2.symm) (this j i h3 h1 h)
theorem minv_mark {l : List Int} {n : Nat} {y : MSt} (hn : l.Nodup) (h : MInv l n y) {i : Nat} {p : Int} (hi : l[i]? = some p) (hp : p ∉ y.ov) (bg : Bool) (st : Int) : MInv l n { y with bg := bg, st := st, m := y.m.set i true, ov := y.ov ++ [p] } := by
  refine ⟨h.kn, by simp [h.ml], h.sl, fun {j q} hj => ?_, fun q hq => ?_, ?_, h.sw, h.s2⟩
  · simp only
    rw [List.getElem?_set]
    by_cases hij : i = j
    · subst hij
      rw [hi] at hj
      cases hj
      have := (List.getElem?_eq_some_iff.1 hi).1
      simp [h.ml, this]
    · rw [if_neg hij, h.mo hj]
      have : q ≠ p := fun e => hij (nodup_at hn hi (by rw [← e]; exact hj))
      simp [this]
  · rcases List.mem_append.1 hq with hq | hq
    · exact h.os q hq
    · rw [List.mem_singleton.1 hq]; exact List.mem_of_getElem? hi
  · rw [List.nodup_append]
    exact ⟨h.on, by simp, fun a ha b hb e => hp (by rw [List.mem_singleton] at hb; rw [← hb, ← e]; exact ha)⟩
theorem minv_put {l : List Int} {n : Nat} {y : MSt} (hn : l.Nodup) (h : MInv l n y) {i : Nat} {p : Int} {x : Value × List Int} (hi : l[i]? = some p) (hx : y.S[i]? = some x) (h2 : x.2.length < 200) (v v' : Value) (k : Int) {W : List (Int × (Value × List Int))} (hW : ∀ q, wget q W = if q = p then x.2 ++ [k] else wget q y.W) : MInv l n { y with S := y.S.set i (v, x.2 ++ [k]), W := W } := by
  refine ⟨h.kn, h.ml, by simp [h.sl], h.mo, h.os, h.on, fun {j q z} hj hz => ?_, fun z hz => ?_⟩
  · simp only at hz ⊢
    rw [List.getElem?_set] at hz
    by_cases hij : i = j
    · subst hij
      rw [hi] at hj
      cases hj
      have := (List.getElem?_eq_some_iff.1 hx).1
      rw [if_pos rfl, if_pos this] at hz
      cases hz
      rw [hW, if_pos rfl]
    · rw [if_neg hij] at hz
      have : q ≠ p := fun e => hij (nodup_at hn hi (by rw [← e]; exact hj))
      rw [hW, if_neg this]
      exact h.sw hj hz
  · rcases List.mem_or_eq_of_mem_set hz with hz | rfl
    · exact h.s2 z hz
    · simp only [List.length_append, List.length_cons, List.length_nil]; omega
theorem minv_next {l : List Int} {n : Nat} {y : MSt} (h : MInv l n y) (hk : y.k < n) : MInv l n { y with k := y.k + 1 } := ⟨hk, h.ml, h.sl, h.mo, h.os, h.on, h.sw, h.s2⟩
theorem all_marked {l : List Int} {n : Nat} {y : MSt} (hn : l.Nodup) (h : MInv l n y) : decide (((y.ov.length : Nat) : Int) < ((l.length : Nat) : Int)) = y.m.any fun a => !a := by
  have h1 : y.ov.length ≤ l.length := h.on.length_le_of_subset h.os
  cases hz : y.m.any fun a => !a with
  | true =>
    rw [List.any_eq_true] at hz
    obtain ⟨b, hb, hb2⟩ := hz
    obtain ⟨i, hi⟩ := List.getElem?_of_mem hb
    have hil : i < l.length := by rw [← h.ml]; exact (List.getElem?_eq_some_iff.1 hi).1
    obtain ⟨p, hp⟩ := nth hil
    have := h.mo hp
    rw [hi] at this
    have hpo : p ∉ y.ov := by
      intro hm
      rw [decide_eq_true hm] at this
      cases this
      cases hb2
    refine decide_eq_true ?_
    have h2 : (p :: y.ov).Nodup := List.nodup_cons.2 ⟨hpo, h.on⟩
    have h3 : (p :: y.ov).length ≤ l.length := h2.length_le_of_subset (by
      intro q hq
      rcases List.mem_cons.1 hq with rfl | hq
      · exact List.mem_of_getElem? hp
      · exact h.os q hq)
    simp only [List.length_cons] at h3
    omega
  | false =>
    refine decide_eq_false fun hlt => ?_
    have h2 : l.length ≤ y.ov.length := hn.length_le_of_subset (by
      intro q hq
      obtain ⟨i, hi⟩ := List.getElem?_of_mem hq
      have h3 := h.mo hi
      rw [List.any_eq_false] at hz
      have h4 := hz _ (List.mem_of_getElem? h3)
      simpa using h4)
    omega
end Go.Proofs.Ytdogdjcjmhogmaa
namespace Go.Proofs.Ytdogdjcjmhogmaa
open Go.RowKit
structure Acq where
  kind : Int
  n : Int
  d : List UInt8
  l : List Int
def Acq.ts (a : Acq) : List T := [.lit (.int .i64 a.kind), .lit (.int .i64 a.n), bytRow a.d, intRow a.l]
theorem Acq.ts_len (a : Acq) : a.ts.length = 4 := rfl
def Acq.row (l : List Acq) : T := .row l.length 4 (l.flatMap Acq.ts)
end Go.Proofs.Ytdogdjcjmhogmaa
