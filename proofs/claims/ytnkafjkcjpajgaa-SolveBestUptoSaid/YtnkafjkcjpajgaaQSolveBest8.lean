/-
  Texts of this proof, part 8: Tkc Ir.
-/
import Derived.Test.YtnkafjkcjpajgaaQSolveBest7
import Derived.Lib.MinMax
namespace Go.Proofs.Ytnkafjkcjpajgaa
open Go.RowKit
theorem nm_af {f : FuncId} {s : ByteArray} (h : AF Try.prog f [.lit (.string (bs s.data.toList))] (· = .lit (.bool (nameOk s.data.toList)))) : AF Try.prog f [.lit (.string s)] (· = .lit (.bool (nameOk s.data.toList))) := by rwa [bs_data] at h
set_option maxRecDepth 100000 in
set_option maxHeartbeats 4000000 in
theorem wants_af (l : List Us) (hl : Us.sizes l ≤ 1048576) : AF Try.prog 58 [Us.row l] (· = .lit (.int .i64 (wantsE l))) := by
  have e : wantsE l = if 5 < l.length then 2 else usesE l := rfl
  have hll := Us.len_sizes l
  generalize hw : wantsE l = we at *
  clear hw
  refine af_enter tok Try.func58 Try.ntmps58 Try.results58 rfl (by kernel_rfl) rfl rfl fun F hX => ?_
  repeat (first | refine gG ?_ | refine zN1 (fun hlen => ?_) | refine zN2 (fun hlen => ?_) | refine zAl (fun _ => ?_))
  refine x_cond rfl (fun h => ?_) (fun h => ?_)
  · have h5 : 5 < l.length := by have := of_decide_eq_true h; omega
    repeat (first | refine gG ?_ | refine zN1 (fun hlen => ?_) | refine zN2 (fun hlen => ?_) | refine zAl (fun _ => ?_))
    first | refine zR ?_ | refine zQ ?_
    rw [e, if_pos h5]
    rfl
  · have h5 : ¬ 5 < l.length := by have := of_decide_eq_false h; omega
    rw [if_neg h5] at e
    repeat (first | refine gG ?_ | refine zN1 (fun hlen => ?_) | refine zN2 (fun hlen => ?_) | refine zAl (fun _ => ?_))
    refine x_loop [2, 4, 10, 11, 12, 13, 14, 15, 16, 17, 18, 19, 20, 21, 22, 23, 24, 25, 26, 27, 28, 29, 30, 31, 32, 33, 34, 35] (fun k : Nat => [(10, .c (.lit (.int .i64 (k : Nat))))]) (fun _ => []) (fun k => k ≤ l.length ∧ usesE l = usesE (l.drop k)) (fun k => l.length - k) 0 ⟨Nat.zero_le _, rfl⟩ ⟨rfl, trivial⟩ rfl ?_
    rintro k ⟨hk, hu⟩
    repeat (first | refine gG ?_ | refine zN1 (fun hlen => ?_) | refine zN2 (fun hlen => ?_) | refine zAl (fun _ => ?_))
    refine x_cond rfl (fun h => ?_) (fun h => ?_)
    · have hk' : k < l.length := by simpa using h
      obtain ⟨u, hu1⟩ := nth hk'
      have hs := usesE_step hu1
      have hsz : u.name.size ≤ 1048576 := by
        have := Us.size_mem (List.mem_of_getElem? hu1)
        obtain ⟨nm, lo, hi⟩ := u
        simp only [Us.size] at this
        simp only
        omega
      have hN := nm_af (name_af u.name.data.toList (by simpa using hsz))
      rw [← hu, ← e] at hs
      repeat (first | refine gG ?_ | refine zN1 (fun hlen => ?_) | refine zN2 (fun hlen => ?_) | refine zAl (fun _ => ?_))
      refine zIx (k) (hk') ?_
      repeat (first | refine gG ?_ | refine zN1 (fun hlen => ?_) | refine zN2 (fun hlen => ?_) | refine zAl (fun _ => ?_))
      refine zEl (Us.at hu1) (Us.ts_len u) ?_
      obtain ⟨nm, lo, hi⟩ := u
      have hE : useE ⟨nm, lo, hi⟩ = if nameOk nm.data.toList then (if lo < 1 ∨ 9999 < hi ∨ hi < lo then 1 else 0) else 11 := rfl
      dsimp only at hN
      generalize useE ⟨nm, lo, hi⟩ = ue at *
      generalize nameOk nm.data.toList = okn at *
      clear hsz hu1 h
      repeat (first | refine gG ?_ | refine zN1 (fun hlen => ?_) | refine zN2 (fun hlen => ?_) | refine zAl (fun _ => ?_))
      refine zCall (hN) ?_
      rintro _ rfl
      cases okn
      · repeat (first | refine gG ?_ | refine zN1 (fun hlen => ?_) | refine zN2 (fun hlen => ?_) | refine zAl (fun _ => ?_))
        first | refine zR ?_ | refine zQ ?_
        rw [hs, hE]
        rfl
      cases d1 : decide (lo < 1)
      rotate_left
      · repeat (first | refine gG ?_ | refine zN1 (fun hlen => ?_) | refine zN2 (fun hlen => ?_) | refine zAl (fun _ => ?_))
        first | refine zR ?_ | refine zQ ?_
        have h1 : ue = 1 := by rw [hE, if_pos rfl, if_pos (.inl (of_decide_eq_true d1))]
        rw [hs, h1]
        rfl
      cases d2 : decide (9999 < hi)
      rotate_left
      · repeat (first | refine gG ?_ | refine zN1 (fun hlen => ?_) | refine zN2 (fun hlen => ?_) | refine zAl (fun _ => ?_))
        first | refine zR ?_ | refine zQ ?_
        have h1 : ue = 1 := by rw [hE, if_pos rfl, if_pos (.inr (.inl (of_decide_eq_true d2)))]
        rw [hs, h1]
        rfl
      cases d3 : decide (hi < lo)
      rotate_left
      · repeat (first | refine gG ?_ | refine zN1 (fun hlen => ?_) | refine zN2 (fun hlen => ?_) | refine zAl (fun _ => ?_))
        first | refine zR ?_ | refine zQ ?_
        have h1 : ue = 1 := by rw [hE, if_pos rfl, if_pos (.inr (.inr (of_decide_eq_true d3)))]
        rw [hs, h1]
        rfl
      have h0 : ue = 0 := by
        have a1 := of_decide_eq_false d1
        have a2 := of_decide_eq_false d2
        have a3 := of_decide_eq_false d3
        rw [hE, if_pos rfl, if_neg (by omega)]
      rw [h0, if_pos rfl] at hs
      repeat (first | refine gG ?_ | refine zN1 (fun hlen => ?_) | refine zN2 (fun hlen => ?_) | refine zAl (fun _ => ?_))
      exact ⟨k + 1, ⟨hk', by rw [← e]; exact hs⟩, by omega, x_wkd 0 ⟨rfl, trivial⟩ rfl (by repeat (first | exact ag_refl | refine ag_upd rfl ?_ | refine ag_at rfl rfl ?_))⟩
    · have hk' : k = l.length := by have : ¬ k < l.length := by simpa using h
                                    omega
      subst hk'
      repeat (first | refine gG ?_ | refine zN1 (fun hlen => ?_) | refine zN2 (fun hlen => ?_) | refine zAl (fun _ => ?_))
      first | refine zR ?_ | refine zQ ?_
      rw [e, hu, List.drop_length]
      rfl
set_option maxRecDepth 100000 in
set_option maxHeartbeats 4000000 in
theorem usesFault_af (l : List Us) (hl : Us.sizes l ≤ 1048576) : AF Try.prog 62 [Us.row l] (· = .lit (.int .i64 (wantsE l))) := by
  have e : wantsE l = if 5 < l.length then 2 else usesE l := rfl
  have hll := Us.len_sizes l
  generalize hw : wantsE l = we at *
  clear hw
  refine af_enter tok Try.func62 Try.ntmps62 Try.results62 rfl (by kernel_rfl) rfl rfl fun F hX => ?_
  repeat (first | refine gG ?_ | refine zN1 (fun hlen => ?_) | refine zN2 (fun hlen => ?_) | refine zAl (fun _ => ?_))
  refine x_cond rfl (fun h => ?_) (fun h => ?_)
  · have h5 : 5 < l.length := by have := of_decide_eq_true h; omega
    repeat (first | refine gG ?_ | refine zN1 (fun hlen => ?_) | refine zN2 (fun hlen => ?_) | refine zAl (fun _ => ?_))
    first | refine zR ?_ | refine zQ ?_
    rw [e, if_pos h5]
    rfl
  · have h5 : ¬ 5 < l.length := by have := of_decide_eq_false h; omega
    rw [if_neg h5] at e
    repeat (first | refine gG ?_ | refine zN1 (fun hlen => ?_) | refine zN2 (fun hlen => ?_) | refine zAl (fun _ => ?_))
    refine x_loop [2, 4, 10, 11, 12, 13, 14, 15, 16, 17, 18, 19, 20, 21, 22, 23, 24, 25, 26, 27, 28, 29, 30, 31, 32, 33] (fun k : Nat => [(10, .c (.lit (.int .i64 (k : Nat))))]) (fun _ => []) (fun k => k ≤ l.length ∧ usesE l = usesE (l.drop k)) (fun k => l.length - k) 0 ⟨Nat.zero_le _, rfl⟩ ⟨rfl, trivial⟩ rfl ?_
    rintro k ⟨hk, hu⟩
    repeat (first | refine gG ?_ | refine zN1 (fun hlen => ?_) | refine zN2 (fun hlen => ?_) | refine zAl (fun _ => ?_))
    refine x_cond rfl (fun h => ?_) (fun h => ?_)
    · have hk' : k < l.length := by simpa using h
      obtain ⟨u, hu1⟩ := nth hk'
      have hs := usesE_step hu1
      have hsz : u.name.size ≤ 1048576 := by
        have := Us.size_mem (List.mem_of_getElem? hu1)
        obtain ⟨nm, lo, hi⟩ := u
        simp only [Us.size] at this
        simp only
        omega
      have hN := nm_af (moduleName_af u.name.data.toList (by simpa using hsz))
      rw [← hu, ← e] at hs
      repeat (first | refine gG ?_ | refine zN1 (fun hlen => ?_) | refine zN2 (fun hlen => ?_) | refine zAl (fun _ => ?_))
      refine zIx (k) (hk') ?_
      repeat (first | refine gG ?_ | refine zN1 (fun hlen => ?_) | refine zN2 (fun hlen => ?_) | refine zAl (fun _ => ?_))
      refine zEl (Us.at hu1) (Us.ts_len u) ?_
      obtain ⟨nm, lo, hi⟩ := u
      have hE : useE ⟨nm, lo, hi⟩ = if nameOk nm.data.toList then (if lo < 1 ∨ 9999 < hi ∨ hi < lo then 1 else 0) else 11 := rfl
      dsimp only at hN
      generalize useE ⟨nm, lo, hi⟩ = ue at *
      generalize nameOk nm.data.toList = okn at *
      clear hsz hu1 h
      repeat (first | refine gG ?_ | refine zN1 (fun hlen => ?_) | refine zN2 (fun hlen => ?_) | refine zAl (fun _ => ?_))
      refine zCall (hN) ?_
      rintro _ rfl
      cases okn
      · repeat (first | refine gG ?_ | refine zN1 (fun hlen => ?_) | refine zN2 (fun hlen => ?_) | refine zAl (fun _ => ?_))
        first | refine zR ?_ | refine zQ ?_
        rw [hs, hE]
        rfl
      cases d1 : decide (lo < 1)
      rotate_left
      · repeat (first | refine gG ?_ | refine zN1 (fun hlen => ?_) | refine zN2 (fun hlen => ?_) | refine zAl (fun _ => ?_))
        first | refine zR ?_ | refine zQ ?_
        have h1 : ue = 1 := by rw [hE, if_pos rfl, if_pos (.inl (of_decide_eq_true d1))]
        rw [hs, h1]
        rfl
      cases d2 : decide (9999 < hi)
      rotate_left
      · repeat (first | refine gG ?_ | refine zN1 (fun hlen => ?_) | refine zN2 (fun hlen => ?_) | refine zAl (fun _ => ?_))
        first | refine zR ?_ | refine zQ ?_
        have h1 : ue = 1 := by rw [hE, if_pos rfl, if_pos (.inr (.inl (of_decide_eq_true d2)))]
        rw [hs, h1]
        rfl
      cases d3 : decide (hi < lo)
      rotate_left
      · repeat (first | refine gG ?_ | refine zN1 (fun hlen => ?_) | refine zN2 (fun hlen => ?_) | refine zAl (fun _ => ?_))
        first | refine zR ?_ | refine zQ ?_
        have h1 : ue = 1 := by rw [hE, if_pos rfl, if_pos (.inr (.inr (of_decide_eq_true d3)))]
        rw [hs, h1]
        rfl
      have h0 : ue = 0 := by
        have a1 := of_decide_eq_false d1
        have a2 := of_decide_eq_false d2
        have a3 := of_decide_eq_false d3
        rw [hE, if_pos rfl, if_neg (by omega)]
      rw [h0, if_pos rfl] at hs
      repeat (first | refine gG ?_ | refine zN1 (fun hlen => ?_) | refine zN2 (fun hlen => ?_) | refine zAl (fun _ => ?_))
      exact ⟨k + 1, ⟨hk', by rw [← e]; exact hs⟩, by omega, x_wkd 0 ⟨rfl, trivial⟩ rfl (by repeat (first | exact ag_refl | refine ag_upd rfl ?_ | refine ag_at rfl rfl ?_))⟩
    · have hk' : k = l.length := by have : ¬ k < l.length := by simpa using h
                                    omega
      subst hk'
      repeat (first | refine gG ?_ | refine zN1 (fun hlen => ?_) | refine zN2 (fun hlen => ?_) | refine zAl (fun _ => ?_))
      first | refine zR ?_ | refine zQ ?_
      rw [e, hu, List.drop_length]
      rfl
end Go.Proofs.Ytnkafjkcjpajgaa
namespace Go.Proofs.Ytnkafjkcjpajgaa
open Go.RowKit
def intTs (i : Int) : List T := [.lit (.int .i64 i)]
def intRow (l : List Int) : T := .row l.length 1 (l.flatMap intTs)
theorem int_at {l : List Int} {k : Nat} {i : Int} (h : l[k]? = some i) : (l.flatMap intTs)[k * 1]? = some (.lit (.int .i64 i)) := flat_get intTs 1 (fun _ => rfl) h (j := 0) (by omega)
end Go.Proofs.Ytnkafjkcjpajgaa
