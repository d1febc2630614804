/-
  Texts of this proof, part 7: Vlb Vsk Vlc Vld Open.
-/
import Derived.Test.YtnkafjkcjpajgaaQLockTurns6
import Derived.Deep.Slices
import Derived.JoinedCond
import Derived.Laws.IdiomRangeMap
import Derived.Laws.StructEq
import Derived.Lib.MinMax
import Derived.OpenShut
import Derived.ProofKit
import Derived.Shelf.SlIter.Nil
import Derived.Shelf.SortM.Plain
import Derived.Shelf.SortM.SortNone
import Derived.Test.YtnkafjkcjpajgaaProg
import Derived.Test.YtnkafjkcjpajgaaRows
namespace Go.Proofs.Ytnkafjkcjpajgaa
open Go.RowKit
set_option maxRecDepth 100000 in
set_option maxHeartbeats 4000000 in
theorem lockCheck_af (l : List Pk) (hs : ∀ p ∈ l, p.name.size ≤ 1048576) : AF Try.prog 52 [Pk.row l] (· = .lit (.int .i64 (lockF l))) := by
  have hfl : lockF l = bif decide (30 < ((l.length : Nat) : Int)) then 2 else lockAt none l := rfl
  rw [hfl]
  clear hfl
  refine af_enter tok Try.func52 Try.ntmps52 Try.results52 rfl (by kernel_rfl) rfl rfl fun F hX => ?_
  cases d1 : decide (30 < ((l.length : Nat) : Int))
  rotate_left
  · repeat (first | refine gG ?_ | refine zN1 (fun hlen => ?_) | refine zN2 (fun hlen => ?_) | refine zAl (fun _ => ?_))
    first | refine zR ?_ | refine zQ ?_
    rfl
  · rw [cond_false]
    repeat (first | refine gG ?_ | refine zN1 (fun hlen => ?_) | refine zN2 (fun hlen => ?_) | refine zAl (fun _ => ?_))
    refine x_loop [2, 3, 4, 10, 11, 12, 13, 14, 15, 16, 17, 18, 19, 20, 21, 22, 23, 24, 25, 26, 27, 28, 29, 30, 31, 32, 33, 34, 35, 36, 37, 38, 39, 40, 41, 42, 43] (fun k : Nat => [(10, .c (.lit (.int .i64 (k : Nat))))]) (fun _ => []) (fun k => k ≤ l.length ∧ lockAt (prevAt l k) (l.drop k) = lockAt none l) (fun k => l.length - k) 0 ⟨Nat.zero_le _, rfl⟩ ⟨rfl, trivial⟩ rfl ?_
    rintro k ⟨hk, hf⟩
    repeat (first | refine gG ?_ | refine zN1 (fun hlen => ?_) | refine zN2 (fun hlen => ?_) | refine zAl (fun _ => ?_))
    refine x_cond rfl (fun h => ?_) (fun h => ?_)
    · have hk' : k < l.length := by simpa using h
      obtain ⟨p, hp⟩ := nth hk'
      have hN := nm_af (name_af p.name.data.toList (by simpa using hs p (List.mem_of_getElem? hp)))
      have hat := Pk.at hp
      have hst := lockAt_step hp
      rw [hf] at hst
      clear h hf hs
      have hpv : (k = 0 ∧ ordK (prevAt l k) p = true) ∨ ∃ m q, k = m + 1 ∧ l[m]? = some q ∧ ordK (prevAt l k) p = !leB p.name q.name := by
        cases k with
        | zero => exact .inl ⟨rfl, rfl⟩
        | succ m =>
          obtain ⟨q, hq⟩ := nth (show m < l.length by omega)
          exact .inr ⟨m, q, rfl, hq, by rw [prevAt_succ hq]; rfl⟩
      generalize hnx : lockAt (prevAt l (k + 1)) (l.drop (k + 1)) = nx at *
      generalize ordK (prevAt l k) p = od at *
      clear hp
      obtain ⟨nm, v⟩ := p
      dsimp only at hN hst hpv
      generalize nameOk nm.data.toList = nok at *
      cases nok
      · replace hst : lockAt none l = 11 := hst
        repeat (first | refine gG ?_ | refine zN1 (fun hlen => ?_) | refine zN2 (fun hlen => ?_) | refine zAl (fun _ => ?_))
        refine zIx (k) (hk') ?_
        repeat (first | refine gG ?_ | refine zN1 (fun hlen => ?_) | refine zN2 (fun hlen => ?_) | refine zAl (fun _ => ?_))
        refine zEl (hat) (Pk.ts_len _) ?_
        repeat (first | refine gG ?_ | refine zN1 (fun hlen => ?_) | refine zN2 (fun hlen => ?_) | refine zAl (fun _ => ?_))
        refine zCall (hN) ?_
        rintro _ rfl
        repeat (first | refine gG ?_ | refine zN1 (fun hlen => ?_) | refine zN2 (fun hlen => ?_) | refine zAl (fun _ => ?_))
        first | refine zR ?_ | refine zQ ?_
        rw [hst]
        rfl
      replace hst : lockAt none l = bif decide (v < 1) || decide (9999 < v) then 1 else (bif od then nx else 21) := hst
      cases d2 : decide (v < 1)
      rotate_left
      · rw [d2] at hst
        replace hst : lockAt none l = 1 := hst
        repeat (first | refine gG ?_ | refine zN1 (fun hlen => ?_) | refine zN2 (fun hlen => ?_) | refine zAl (fun _ => ?_))
        refine zIx (k) (hk') ?_
        repeat (first | refine gG ?_ | refine zN1 (fun hlen => ?_) | refine zN2 (fun hlen => ?_) | refine zAl (fun _ => ?_))
        refine zEl (hat) (Pk.ts_len _) ?_
        repeat (first | refine gG ?_ | refine zN1 (fun hlen => ?_) | refine zN2 (fun hlen => ?_) | refine zAl (fun _ => ?_))
        refine zCall (hN) ?_
        rintro _ rfl
        repeat (first | refine gG ?_ | refine zN1 (fun hlen => ?_) | refine zN2 (fun hlen => ?_) | refine zAl (fun _ => ?_))
        first | refine zR ?_ | refine zQ ?_
        rw [hst]
        rfl
      cases d3 : decide (9999 < v)
      rotate_left
      · rw [d2, d3] at hst
        replace hst : lockAt none l = 1 := hst
        repeat (first | refine gG ?_ | refine zN1 (fun hlen => ?_) | refine zN2 (fun hlen => ?_) | refine zAl (fun _ => ?_))
        refine zIx (k) (hk') ?_
        repeat (first | refine gG ?_ | refine zN1 (fun hlen => ?_) | refine zN2 (fun hlen => ?_) | refine zAl (fun _ => ?_))
        refine zEl (hat) (Pk.ts_len _) ?_
        repeat (first | refine gG ?_ | refine zN1 (fun hlen => ?_) | refine zN2 (fun hlen => ?_) | refine zAl (fun _ => ?_))
        refine zCall (hN) ?_
        rintro _ rfl
        repeat (first | refine gG ?_ | refine zN1 (fun hlen => ?_) | refine zN2 (fun hlen => ?_) | refine zAl (fun _ => ?_))
        first | refine zR ?_ | refine zQ ?_
        rw [hst]
        rfl
      rw [d2, d3] at hst
      replace hst : lockAt none l = bif od then nx else 21 := hst
      rcases hpv with ⟨rfl, rfl⟩ | ⟨m, q, rfl, hq, rfl⟩
      · replace hst : lockAt none l = nx := hst
        have d4 : decide ((0 : Int) < ((0 : Nat) : Int)) = false := rfl
        repeat (first | refine gG ?_ | refine zN1 (fun hlen => ?_) | refine zN2 (fun hlen => ?_) | refine zAl (fun _ => ?_))
        refine zIx (0) (hk') ?_
        repeat (first | refine gG ?_ | refine zN1 (fun hlen => ?_) | refine zN2 (fun hlen => ?_) | refine zAl (fun _ => ?_))
        refine zEl (hat) (Pk.ts_len _) ?_
        repeat (first | refine gG ?_ | refine zN1 (fun hlen => ?_) | refine zN2 (fun hlen => ?_) | refine zAl (fun _ => ?_))
        refine zCall (hN) ?_
        rintro _ rfl
        repeat (first | refine gG ?_ | refine zN1 (fun hlen => ?_) | refine zN2 (fun hlen => ?_) | refine zAl (fun _ => ?_))
        refine ac_draw [1, 1, 1, 1, 1, 1, 1, 1, 1, 1, 1, 1, 1, 1] [0, 1, 2, 3, 4, 5, 6, 7, 8, 9, 10, 11, 12, 13] (by kernel_rfl) (by kernel_rfl) ?_
        refine gW ?_
        refine w_nil ?_
        repeat (first | refine gG ?_ | refine zN1 (fun hlen => ?_) | refine zN2 (fun hlen => ?_) | refine zAl (fun _ => ?_))
        exact ⟨0 + 1, ⟨hk', by rw [hst, hnx]⟩, by omega, x_wkd 0 ⟨rfl, trivial⟩ rfl (by repeat (first | exact ag_refl | refine ag_upd rfl ?_ | refine ag_at rfl rfl ?_))⟩
      · have hm : m < l.length := by omega
        have g1 : (l.flatMap Pk.ts)[m * 2 + 0]? = some (.lit (.string q.name)) := flat_get Pk.ts 2 Pk.ts_len hq (j := 0) (by omega)
        have d4 : decide ((0 : Int) < ((m + 1 : Nat) : Int)) = true := decide_eq_true (by omega)
        clear hq
        have hle : leB nm q.name = (strLt nm q.name || decide (nm = q.name)) := rfl
        generalize leB nm q.name = le at *
        have d5 := hle.symm
        clear hle
        cases le
        · replace hst : lockAt none l = nx := hst
          repeat (first | refine gG ?_ | refine zN1 (fun hlen => ?_) | refine zN2 (fun hlen => ?_) | refine zAl (fun _ => ?_))
          refine zIx (m + 1) (hk') ?_
          repeat (first | refine gG ?_ | refine zN1 (fun hlen => ?_) | refine zN2 (fun hlen => ?_) | refine zAl (fun _ => ?_))
          refine zEl (hat) (Pk.ts_len _) ?_
          repeat (first | refine gG ?_ | refine zN1 (fun hlen => ?_) | refine zN2 (fun hlen => ?_) | refine zAl (fun _ => ?_))
          refine zCall (hN) ?_
          rintro _ rfl
          repeat (first | refine gG ?_ | refine zN1 (fun hlen => ?_) | refine zN2 (fun hlen => ?_) | refine zAl (fun _ => ?_))
          refine ac_draw [1, 1, 1, 1, 1, 1, 1, 1, 1, 1, 1, 1, 1, 1] [0, 1, 2, 3, 4, 5, 6, 7, 8, 9, 10, 11, 12, 13] (by kernel_rfl) (by kernel_rfl) ?_
          refine gW ?_
          try (first | (apply w_un; (focus exact rfl); (focus exact rfl); (focus exact rfl); (focus exact rfl)) | (apply w_no; (focus exact rfl); (focus exact rfl); (focus exact rfl); (focus exact rfl); focus (first | rfl | assumption | exact neg_t (by assumption) | exact neg_f (by assumption))) | (apply w_qg; (focus exact rfl); (focus exact rfl); (focus exact rfl); (focus exact rfl); (focus (first | rfl | assumption | exact neg_t (by assumption) | exact neg_f (by assumption))); (focus (intro _; (refine lo_sub rfl rfl (r := ((m : Nat) : Int)) (by rw [IntWalk.i64_in _ (by omega)]; omega) ?_); exact det_refl))))
          (first | (apply w_un; (focus exact rfl); (focus exact rfl); (focus exact rfl); (focus exact rfl)) | (apply w_no; (focus exact rfl); (focus exact rfl); (focus exact rfl); (focus exact rfl); focus (first | rfl | assumption | exact neg_t (by assumption) | exact neg_f (by assumption))) | (apply w_qg; (focus exact rfl); (focus exact rfl); (focus exact rfl); (focus exact rfl); (focus (first | rfl | assumption | exact neg_t (by assumption) | exact neg_f (by assumption))); (focus (intro _; (refine zIx m hm ?_); exact det_refl))))
          try refine gW ?_
          try (first | (apply w_un; (focus exact rfl); (focus exact rfl); (focus exact rfl); (focus exact rfl)) | (apply w_no; (focus exact rfl); (focus exact rfl); (focus exact rfl); (focus exact rfl); focus (first | rfl | assumption | exact neg_t (by assumption) | exact neg_f (by assumption))) | (apply w_qg; (focus exact rfl); (focus exact rfl); (focus exact rfl); (focus exact rfl); (focus (first | rfl | assumption | exact neg_t (by assumption) | exact neg_f (by assumption))); (focus (intro _; (refine zEl1 g1 ?_); exact det_refl))))
          try refine gW ?_
          refine w_nil ?_
          repeat (first | refine gG ?_ | refine zN1 (fun hlen => ?_) | refine zN2 (fun hlen => ?_) | refine zAl (fun _ => ?_))
          exact ⟨m + 1 + 1, ⟨hk', by rw [hst, hnx]⟩, by omega, x_wkd 0 ⟨rfl, trivial⟩ rfl (by repeat (first | exact ag_refl | refine ag_upd rfl ?_ | refine ag_at rfl rfl ?_))⟩
        · replace hst : lockAt none l = 21 := hst
          repeat (first | refine gG ?_ | refine zN1 (fun hlen => ?_) | refine zN2 (fun hlen => ?_) | refine zAl (fun _ => ?_))
          refine zIx (m + 1) (hk') ?_
          repeat (first | refine gG ?_ | refine zN1 (fun hlen => ?_) | refine zN2 (fun hlen => ?_) | refine zAl (fun _ => ?_))
          refine zEl (hat) (Pk.ts_len _) ?_
          repeat (first | refine gG ?_ | refine zN1 (fun hlen => ?_) | refine zN2 (fun hlen => ?_) | refine zAl (fun _ => ?_))
          refine zCall (hN) ?_
          rintro _ rfl
          repeat (first | refine gG ?_ | refine zN1 (fun hlen => ?_) | refine zN2 (fun hlen => ?_) | refine zAl (fun _ => ?_))
          refine ac_draw [1, 1, 1, 1, 1, 1, 1, 1, 1, 1, 1, 1, 1, 1] [0, 1, 2, 3, 4, 5, 6, 7, 8, 9, 10, 11, 12, 13] (by kernel_rfl) (by kernel_rfl) ?_
          refine gW ?_
          try (first | (apply w_un; (focus exact rfl); (focus exact rfl); (focus exact rfl); (focus exact rfl)) | (apply w_no; (focus exact rfl); (focus exact rfl); (focus exact rfl); (focus exact rfl); focus (first | rfl | assumption | exact neg_t (by assumption) | exact neg_f (by assumption))) | (apply w_qg; (focus exact rfl); (focus exact rfl); (focus exact rfl); (focus exact rfl); (focus (first | rfl | assumption | exact neg_t (by assumption) | exact neg_f (by assumption))); (focus (intro _; (refine lo_sub rfl rfl (r := ((m : Nat) : Int)) (by rw [IntWalk.i64_in _ (by omega)]; omega) ?_); exact det_refl))))
          (first | (apply w_un; (focus exact rfl); (focus exact rfl); (focus exact rfl); (focus exact rfl)) | (apply w_no; (focus exact rfl); (focus exact rfl); (focus exact rfl); (focus exact rfl); focus (first | rfl | assumption | exact neg_t (by assumption) | exact neg_f (by assumption))) | (apply w_qg; (focus exact rfl); (focus exact rfl); (focus exact rfl); (focus exact rfl); (focus (first | rfl | assumption | exact neg_t (by assumption) | exact neg_f (by assumption))); (focus (intro _; (refine zIx m hm ?_); exact det_refl))))
          try refine gW ?_
          try (first | (apply w_un; (focus exact rfl); (focus exact rfl); (focus exact rfl); (focus exact rfl)) | (apply w_no; (focus exact rfl); (focus exact rfl); (focus exact rfl); (focus exact rfl); focus (first | rfl | assumption | exact neg_t (by assumption) | exact neg_f (by assumption))) | (apply w_qg; (focus exact rfl); (focus exact rfl); (focus exact rfl); (focus exact rfl); (focus (first | rfl | assumption | exact neg_t (by assumption) | exact neg_f (by assumption))); (focus (intro _; (refine zEl1 g1 ?_); exact det_refl))))
          try refine gW ?_
          refine w_nil ?_
          repeat (first | refine gG ?_ | refine zN1 (fun hlen => ?_) | refine zN2 (fun hlen => ?_) | refine zAl (fun _ => ?_))
          first | refine zR ?_ | refine zQ ?_
          rw [hst]
          rfl
    · have hk' : k = l.length := by
        have : ¬ k < l.length := by simpa using h
        omega
      subst hk'
      rw [List.drop_length] at hf
      clear h
      repeat (first | refine gG ?_ | refine zN1 (fun hlen => ?_) | refine zN2 (fun hlen => ?_) | refine zAl (fun _ => ?_))
      first | refine zR ?_ | refine zQ ?_
      rw [← hf]
      rfl
set_option maxRecDepth 100000 in
set_option maxHeartbeats 4000000 in
theorem lockFault_af (l : List Pk) (hs : ∀ p ∈ l, p.name.size ≤ 1048576) : AF Try.prog 55 [Pk.row l] (· = .lit (.int .i64 (lockF l))) := by
  have hfl : lockF l = bif decide (30 < ((l.length : Nat) : Int)) then 2 else lockAt none l := rfl
  rw [hfl]
  clear hfl
  refine af_enter tok Try.func55 Try.ntmps55 Try.results55 rfl (by kernel_rfl) rfl rfl fun F hX => ?_
  cases d1 : decide (30 < ((l.length : Nat) : Int))
  rotate_left
  · repeat (first | refine gG ?_ | refine zN1 (fun hlen => ?_) | refine zN2 (fun hlen => ?_) | refine zAl (fun _ => ?_))
    first | refine zR ?_ | refine zQ ?_
    rfl
  · rw [cond_false]
    repeat (first | refine gG ?_ | refine zN1 (fun hlen => ?_) | refine zN2 (fun hlen => ?_) | refine zAl (fun _ => ?_))
    refine x_loop [2, 3, 5, 11, 12, 13, 14, 15, 16, 17, 18, 19, 20, 21, 22, 23, 24, 25, 26, 27, 28, 29, 30, 31, 32, 33, 34, 35, 36] (fun k : Nat => [(11, .c (.lit (.int .i64 (k : Nat)))), (3, .c (.lit (.string (lastOf l k))))]) (fun _ => []) (fun k => k ≤ l.length ∧ lockAt (prevAt l k) (l.drop k) = lockAt none l) (fun k => l.length - k) 0 ⟨Nat.zero_le _, rfl⟩ ⟨rfl, rfl, trivial⟩ rfl ?_
    rintro k ⟨hk, hf⟩
    repeat (first | refine gG ?_ | refine zN1 (fun hlen => ?_) | refine zN2 (fun hlen => ?_) | refine zAl (fun _ => ?_))
    refine x_cond rfl (fun h => ?_) (fun h => ?_)
    · have hk' : k < l.length := by simpa using h
      obtain ⟨p, hp⟩ := nth hk'
      have hN := nm_af (moduleName_af p.name.data.toList (by simpa using hs p (List.mem_of_getElem? hp)))
      have hat := Pk.at hp
      have hst := lockAt_step hp
      have hol := @ord_last l k p
      have hls := lastOf_succ hp
      rw [hf] at hst
      clear h hf hs
      generalize hnx : lockAt (prevAt l (k + 1)) (l.drop (k + 1)) = nx at *
      generalize ordK (prevAt l k) p = od at *
      generalize lastOf l k = la at *
      generalize hla : lastOf l (k + 1) = la' at *
      clear hp
      obtain ⟨nm, v⟩ := p
      dsimp only at hN hst hol hls
      generalize nameOk nm.data.toList = nok at *
      cases nok
      · replace hst : lockAt none l = 11 := hst
        clear hol
        repeat (first | refine gG ?_ | refine zN1 (fun hlen => ?_) | refine zN2 (fun hlen => ?_) | refine zAl (fun _ => ?_))
        refine zIx (k) (hk') ?_
        repeat (first | refine gG ?_ | refine zN1 (fun hlen => ?_) | refine zN2 (fun hlen => ?_) | refine zAl (fun _ => ?_))
        refine zEl (hat) (Pk.ts_len _) ?_
        repeat (first | refine gG ?_ | refine zN1 (fun hlen => ?_) | refine zN2 (fun hlen => ?_) | refine zAl (fun _ => ?_))
        refine zCall (hN) ?_
        rintro _ rfl
        repeat (first | refine gG ?_ | refine zN1 (fun hlen => ?_) | refine zN2 (fun hlen => ?_) | refine zAl (fun _ => ?_))
        first | refine zR ?_ | refine zQ ?_
        rw [hst]
        rfl
      replace hol := hol rfl
      replace hst : lockAt none l = bif decide (v < 1) || decide (9999 < v) then 1 else (bif od then nx else 21) := hst
      cases d2 : decide (v < 1)
      rotate_left
      · rw [d2] at hst
        replace hst : lockAt none l = 1 := hst
        clear hol
        repeat (first | refine gG ?_ | refine zN1 (fun hlen => ?_) | refine zN2 (fun hlen => ?_) | refine zAl (fun _ => ?_))
        refine zIx (k) (hk') ?_
        repeat (first | refine gG ?_ | refine zN1 (fun hlen => ?_) | refine zN2 (fun hlen => ?_) | refine zAl (fun _ => ?_))
        refine zEl (hat) (Pk.ts_len _) ?_
        repeat (first | refine gG ?_ | refine zN1 (fun hlen => ?_) | refine zN2 (fun hlen => ?_) | refine zAl (fun _ => ?_))
        refine zCall (hN) ?_
        rintro _ rfl
        repeat (first | refine gG ?_ | refine zN1 (fun hlen => ?_) | refine zN2 (fun hlen => ?_) | refine zAl (fun _ => ?_))
        first | refine zR ?_ | refine zQ ?_
        rw [hst]
        rfl
      cases d3 : decide (9999 < v)
      rotate_left
      · rw [d2, d3] at hst
        replace hst : lockAt none l = 1 := hst
        clear hol
        repeat (first | refine gG ?_ | refine zN1 (fun hlen => ?_) | refine zN2 (fun hlen => ?_) | refine zAl (fun _ => ?_))
        refine zIx (k) (hk') ?_
        repeat (first | refine gG ?_ | refine zN1 (fun hlen => ?_) | refine zN2 (fun hlen => ?_) | refine zAl (fun _ => ?_))
        refine zEl (hat) (Pk.ts_len _) ?_
        repeat (first | refine gG ?_ | refine zN1 (fun hlen => ?_) | refine zN2 (fun hlen => ?_) | refine zAl (fun _ => ?_))
        refine zCall (hN) ?_
        rintro _ rfl
        repeat (first | refine gG ?_ | refine zN1 (fun hlen => ?_) | refine zN2 (fun hlen => ?_) | refine zAl (fun _ => ?_))
        first | refine zR ?_ | refine zQ ?_
        rw [hst]
        rfl
      rw [d2, d3] at hst
      replace hst : lockAt none l = bif od then nx else 21 := hst
      have d5 : (strLt nm la || decide (nm = la)) = !od := hol
      clear hol
      cases od
      · replace hst : lockAt none l = 21 := hst
        replace d5 : (strLt nm la || decide (nm = la)) = true := d5
        repeat (first | refine gG ?_ | refine zN1 (fun hlen => ?_) | refine zN2 (fun hlen => ?_) | refine zAl (fun _ => ?_))
        refine zIx (k) (hk') ?_
        repeat (first | refine gG ?_ | refine zN1 (fun hlen => ?_) | refine zN2 (fun hlen => ?_) | refine zAl (fun _ => ?_))
        refine zEl (hat) (Pk.ts_len _) ?_
        repeat (first | refine gG ?_ | refine zN1 (fun hlen => ?_) | refine zN2 (fun hlen => ?_) | refine zAl (fun _ => ?_))
        refine zCall (hN) ?_
        rintro _ rfl
        repeat (first | refine gG ?_ | refine zN1 (fun hlen => ?_) | refine zN2 (fun hlen => ?_) | refine zAl (fun _ => ?_))
        first | refine zR ?_ | refine zQ ?_
        rw [hst]
        rfl
      · replace hst : lockAt none l = nx := hst
        replace d5 : (strLt nm la || decide (nm = la)) = false := d5
        repeat (first | refine gG ?_ | refine zN1 (fun hlen => ?_) | refine zN2 (fun hlen => ?_) | refine zAl (fun _ => ?_))
        refine zIx (k) (hk') ?_
        repeat (first | refine gG ?_ | refine zN1 (fun hlen => ?_) | refine zN2 (fun hlen => ?_) | refine zAl (fun _ => ?_))
        refine zEl (hat) (Pk.ts_len _) ?_
        repeat (first | refine gG ?_ | refine zN1 (fun hlen => ?_) | refine zN2 (fun hlen => ?_) | refine zAl (fun _ => ?_))
        refine zCall (hN) ?_
        rintro _ rfl
        repeat (first | refine gG ?_ | refine zN1 (fun hlen => ?_) | refine zN2 (fun hlen => ?_) | refine zAl (fun _ => ?_))
        exact ⟨k + 1, ⟨hk', by rw [hst, hnx]⟩, by omega, x_wkd 0 ⟨rfl, by rw [hla, hls]; rfl, trivial⟩ rfl (by repeat (first | exact ag_refl | refine ag_upd rfl ?_ | refine ag_at rfl rfl ?_))⟩
    · have hk' : k = l.length := by
        have : ¬ k < l.length := by simpa using h
        omega
      subst hk'
      rw [List.drop_length] at hf
      clear h
      repeat (first | refine gG ?_ | refine zN1 (fun hlen => ?_) | refine zN2 (fun hlen => ?_) | refine zAl (fun _ => ?_))
      first | refine zR ?_ | refine zQ ?_
      rw [← hf]
      rfl
end Go.Proofs.Ytnkafjkcjpajgaa
namespace Go.Proofs.Ytnkafjkcjpajgaa
open Go.Shelf
def keysTurn_ren : Go.Shelf.Ren := ⟨fun | 7 => 54 | 10 => 90 | n => n, fun | 23 => 97 | 26 => 9 | 3 => 49 | 28 => 101 | 0 => 0 | 27 => 100 | 33 => 165 | 4 => 4 | n => n, fun | n => n⟩
theorem keysTurn : Go.Proofs.SlLaysZ.n7 Try.prog keysTurn_ren := {
  mixed := by kernel_rfl
  f7 := ⟨Try.f54.name, by decide, Try.func54.trans (congrArg some (by kernel_rfl))⟩
  f10 := ⟨Try.f90.name, by decide, Try.func90.trans (congrArg some (by kernel_rfl))⟩
  t0 := Try.underlying0
  a0 := Try.isAgg0
  z0 := Try.sizeOf0
  v0 := Try.zeroValue0
  t4 := Try.underlying4
  a4 := Try.isAgg4
  z4 := Try.sizeOf4
  v4 := Try.zeroValue4
  t23 := Try.underlying97
  a23 := Try.isAgg97
  z23 := Try.sizeOf97
  v23 := Try.zeroValue97
  t26 := Try.underlying9
  a26 := Try.isAgg9
  z26 := Try.sizeOf9
  v26 := Try.zeroValue9
  t27 := Try.underlying100
  a27 := Try.isAgg100
  z27 := Try.sizeOf100
  v27 := Try.zeroValue100
  t28 := Try.underlying101
  a28 := Try.isAgg101
  z28 := Try.sizeOf101
  v28 := Try.zeroValue101
  t33 := Try.underlying165
  a33 := Try.isAgg165
  z33 := Try.sizeOf165
  v33 := Try.zeroValue165 }
def sortedStr_ren : Go.Shelf.Ren := ⟨fun | 6 => 53 | 8 => 88 | 9 => 89 | 11 => 119 | 13 => 85 | 12 => 120 | 23 => 117 | 24 => 118 | 14 => 138 | 15 => 139 | 16 => 140 | 17 => 141 | 18 => 142 | 19 => 143 | 20 => 144 | 21 => 145 | 22 => 146 | 25 => 165 | 26 => 134 | 27 => 135 | 28 => 166 | 29 => 167 | 30 => 121 | 31 => 170 | n => n, fun | 26 => 9 | 28 => 101 | 24 => 57 | 0 => 0 | 3 => 3 | 37 => 162 | 48 => 202 | 50 => 204 | 4 => 4 | 40 => 196 | 39 => 195 | 45 => 173 | 5 => 5 | 9 => 9 | 51 => 223 | 55 => 116 | 57 => 256 | 58 => 257 | 33 => 165 | n => n, fun | n => n⟩
theorem sortedStr : Go.Proofs.SlLaysZ.n6 Try.prog sortedStr_ren := {
  mixed := by kernel_rfl
  f6 := ⟨Try.f53.name, by decide, Try.func53.trans (congrArg some (by kernel_rfl))⟩
  f8 := ⟨Try.f88.name, by decide, Try.func88.trans (congrArg some (by kernel_rfl))⟩
  f11 := ⟨Try.f119.name, by decide, Try.func119.trans (congrArg some (by kernel_rfl))⟩
  t0 := Try.underlying0
  a0 := Try.isAgg0
  z0 := Try.sizeOf0
  v0 := Try.zeroValue0
  t24 := Try.underlying57
  a24 := Try.isAgg57
  z24 := Try.sizeOf57
  v24 := Try.zeroValue57
  t26 := Try.underlying9
  a26 := Try.isAgg9
  z26 := Try.sizeOf9
  v26 := Try.zeroValue9
  t28 := Try.underlying101
  a28 := Try.isAgg101
  z28 := Try.sizeOf101
  v28 := Try.zeroValue101
  i26 := by kernel_rfl }
def sortStr_ren : Go.Shelf.Ren := ⟨fun | 6 => 89 | 8 => 85 | 9 => 120 | 19 => 117 | 20 => 118 | 21 => 138 | 22 => 139 | 23 => 140 | 24 => 141 | 25 => 142 | 26 => 143 | 27 => 144 | 28 => 145 | 29 => 146 | 36 => 165 | 31 => 134 | 32 => 135 | 37 => 166 | 38 => 167 | 39 => 121 | 41 => 170 | n => n, fun | 27 => 57 | 29 => 9 | 3 => 3 | 32 => 162 | 26 => 57 | 0 => 0 | 44 => 202 | 46 => 204 | 4 => 4 | 36 => 196 | 35 => 195 | 41 => 173 | 5 => 5 | 9 => 9 | 53 => 223 | 57 => 116 | 63 => 256 | 64 => 257 | n => n, fun | n => n⟩
theorem sortStr : Go.Proofs.SlLaysM.n6 Try.prog sortStr_ren := {
  mixed := by kernel_rfl
  f6 := ⟨Try.f89.name, by decide, Try.func89.trans (congrArg some (by kernel_rfl))⟩
  f8 := Try.func85.trans (congrArg some (by kernel_rfl))
  f9 := ⟨Try.f120.name, by decide, Try.func120.trans (congrArg some (by kernel_rfl))⟩
  f19 := Try.func117.trans (congrArg some (by kernel_rfl))
  f20 := Try.func118.trans (congrArg some (by kernel_rfl))
  f21 := ⟨Try.f138.name, by decide, Try.func138.trans (congrArg some (by kernel_rfl))⟩
  f22 := ⟨Try.f139.name, by decide, Try.func139.trans (congrArg some (by kernel_rfl))⟩
  f23 := ⟨Try.f140.name, by decide, Try.func140.trans (congrArg some (by kernel_rfl))⟩
  f24 := ⟨Try.f141.name, by decide, Try.func141.trans (congrArg some (by kernel_rfl))⟩
  f25 := ⟨Try.f142.name, by decide, Try.func142.trans (congrArg some (by kernel_rfl))⟩
  f26 := ⟨Try.f143.name, by decide, Try.func143.trans (congrArg some (by kernel_rfl))⟩
  f27 := ⟨Try.f144.name, by decide, Try.func144.trans (congrArg some (by kernel_rfl))⟩
  f28 := ⟨Try.f145.name, by decide, Try.func145.trans (congrArg some (by kernel_rfl))⟩
  f29 := ⟨Try.f146.name, by decide, Try.func146.trans (congrArg some (by kernel_rfl))⟩
  f31 := Try.func134.trans (congrArg some (by kernel_rfl))
  f32 := Try.func135.trans (congrArg some (by kernel_rfl))
  f36 := ⟨Try.f165.name, by decide, Try.func165.trans (congrArg some (by kernel_rfl))⟩
  f37 := ⟨Try.f166.name, by decide, Try.func166.trans (congrArg some (by kernel_rfl))⟩
  f38 := ⟨Try.f167.name, by decide, Try.func167.trans (congrArg some (by kernel_rfl))⟩
  f39 := ⟨Try.f121.name, by decide, Try.func121.trans (congrArg some (by kernel_rfl))⟩
  f41 := ⟨Try.f170.name, by decide, Try.func170.trans (congrArg some (by kernel_rfl))⟩
  t0 := Try.underlying0
  a0 := Try.isAgg0
  z0 := Try.sizeOf0
  v0 := Try.zeroValue0
  t3 := Try.underlying3
  a3 := Try.isAgg3
  z3 := Try.sizeOf3
  v3 := Try.zeroValue3
  t4 := Try.underlying4
  a4 := Try.isAgg4
  z4 := Try.sizeOf4
  v4 := Try.zeroValue4
  t5 := Try.underlying5
  a5 := Try.isAgg5
  z5 := Try.sizeOf5
  v5 := Try.zeroValue5
  t9 := Try.underlying9
  a9 := Try.isAgg9
  z9 := Try.sizeOf9
  v9 := Try.zeroValue9
  t26 := Try.underlying57
  a26 := Try.isAgg57
  z26 := Try.sizeOf57
  v26 := Try.zeroValue57
  t27 := Try.underlying57
  a27 := Try.isAgg57
  z27 := Try.sizeOf57
  v27 := Try.zeroValue57
  t29 := Try.underlying9
  a29 := Try.isAgg9
  z29 := Try.sizeOf9
  v29 := Try.zeroValue9
  t32 := Try.underlying162
  a32 := Try.isAgg162
  z32 := Try.sizeOf162
  v32 := Try.zeroValue162
  t35 := Try.underlying195
  a35 := Try.isAgg195
  z35 := Try.sizeOf195
  v35 := Try.zeroValue195
  t36 := Try.underlying196
  a36 := Try.isAgg196
  z36 := Try.sizeOf196
  v36 := Try.zeroValue196
  t41 := Try.underlying173
  a41 := Try.isAgg173
  z41 := Try.sizeOf173
  v41 := Try.zeroValue173
  t44 := Try.underlying202
  a44 := Try.isAgg202
  z44 := Try.sizeOf202
  v44 := Try.zeroValue202
  t46 := Try.underlying204
  a46 := Try.isAgg204
  z46 := Try.sizeOf204
  v46 := Try.zeroValue204
  t53 := Try.underlying223
  a53 := Try.isAgg223
  z53 := Try.sizeOf223
  v53 := Try.zeroValue223
  t57 := Try.underlying116
  a57 := Try.isAgg116
  z57 := Try.sizeOf116
  v57 := Try.zeroValue116
  t63 := Try.underlying256
  a63 := Try.isAgg256
  z63 := Try.sizeOf256
  v63 := Try.zeroValue256
  t64 := Try.underlying257
  a64 := Try.isAgg257
  z64 := Try.sizeOf257
  v64 := Try.zeroValue257 }
end Go.Proofs.Ytnkafjkcjpajgaa
namespace Go.Proofs.Ytnkafjkcjpajgaa
open Go.RowKit
theorem enters_Sorted : Enters Try.prog 53 := ⟨_, Try.func53, by kernel_rfl, by kernel_rfl⟩
theorem enters_Sort : Enters Try.prog 89 := ⟨_, Try.func89, by kernel_rfl, by kernel_rfl⟩
theorem sortStr_ag (l : List ByteArray) (hlen : l.length ≤ 1048576) (v : Value) (e : TypeId) :
    AG Try.prog 89 [.own 0 v] [.row v e 1 l.length (l.flatMap strTs)] (fun r hs => r = .tup [] ∧ hs = [.row v e 1 (sortB l).length ((sortB l).flatMap strTs)]) :=
  sortS_ag (ρ := sortStr_ren) sortStr enters_Sort l (by omega) v e
theorem sortedTurn_ag (l : List (ByteArray × T)) (hn : (l.map (·.1)).Nodup) (hsz : ∀ p ∈ l, p.1.size ≤ maxLen) (hlen : l.length ≤ 1048576) (bb b : Nat) (mt : TypeId) (q1 q2 : Nat) :
    AG Try.prog 53 [.fn (.func 90) [.ptr q1 bb 0]] [.box bb mt [.own q2 (.map (some b))], .mp b (mkeys Value.string l)]
      (fun r hs => ∃ v, r = .own 2 v ∧ hs = [.box bb mt [.own q2 (.map (some b))], .mp b (mkeys Value.string l), .row v 9 1 (sortB (l.map (·.1))).length ((sortB (l.map (·.1))).flatMap strTs)]) :=
  sortedK_ag (ρk := keysTurn_ren) (ρs := sortedStr_ren) (ρm := sortStr_ren) { keysTurn with } sortedStr sortStr rfl rfl Try.underlying9 enters_Sorted
    (enters_of Try.func89 (by kernel_rfl) rfl) (enters_of Try.func90 (by kernel_rfl) rfl) l hn hsz hlen bb b mt q1 q2
set_option maxRecDepth 100000 in
set_option maxHeartbeats 1000000 in
theorem keysTurn_ag (b : Nat) (M : List (Value × T)) : AG Try.prog 54 [.own 0 (.map (some b))] [.mp b M] (fun r hs => ∃ bb, r = .fn (.func 90) [.ptr 1 bb 0] ∧ hs = [.mp b M, .box bb 97 [.own 0 (.map (some b))]]) := by
  refine ag_enter 2 tok Try.func54 Try.ntmps54 Try.results54 rfl (by kernel_rfl) rfl fun F => ?_
  repeat (first | refine gG ?_ | refine zBx (fun _ => ?_))
  refine zG ?_
  exact ⟨_, rfl, rfl⟩
set_option maxRecDepth 100000 in
set_option maxHeartbeats 1000000 in
theorem strings_ag (l : List ByteArray) (hlen : l.length ≤ 1048576) (v : Value) (e : TypeId) : AG Try.prog 92 [.own 0 v] [.row v e 1 l.length (l.flatMap strTs)] (fun r hs => r = .tup [] ∧ hs = [.row v e 1 (sortB l).length ((sortB l).flatMap strTs)]) := by
  have hc := sortStr_ag l hlen v e
  refine ag_enter 1 tok Try.func92 Try.ntmps92 Try.results92 rfl (by kernel_rfl) rfl fun F => ?_
  repeat (first | refine gG ?_)
  refine zCallG [0] hc ?_
  rintro _ _ ⟨rfl, rfl⟩
  refine ⟨.tup [], _, re_refl, rfl, rfl, ?_⟩
  repeat (first | refine gG ?_)
  refine zG ?_
  exact ⟨rfl, rfl⟩
set_option maxRecDepth 100000 in
set_option maxHeartbeats 1000000 in
theorem sorted_ag (l : List ByteArray) (hlen : l.length ≤ 1048576) : AG Try.prog 56 [.c (strRow l)] [] (fun r hs => ∃ v, r = .own 0 v ∧ hs = [.row v 9 1 (sortB l).length ((sortB l).flatMap strTs)]) := by
  have hc : ∀ (v : Value) (n : Nat) (cs : List T), n = l.length → cs = l.flatMap strTs → AG Try.prog 92 [.own 0 v] [.row v 9 1 n cs] (fun r hs => r = .tup [] ∧ hs = [.row v 9 1 (sortB l).length ((sortB l).flatMap strTs)]) := fun v n cs h1 h2 => by
    subst h1 h2
    exact strings_ag l hlen v 9
  refine ag_enter 1 tok Try.func56 Try.ntmps56 Try.results56 rfl (by kernel_rfl) rfl fun F => ?_
  repeat (first | refine gX ?_ | refine zAp (fun _ => ?_))
  refine zBo (fun _ => ?_)
  repeat (first | refine gG ?_ | refine zAp (fun _ => ?_))
  refine zCallG [0] (hc _ _ _ (Nat.zero_add _) (List.nil_append _)) ?_
  rintro _ _ ⟨rfl, rfl⟩
  refine ⟨.tup [], _, re_refl, rfl, rfl, ?_⟩
  repeat (first | refine gG ?_ | refine zAp (fun _ => ?_))
  refine zG ?_
  exact ⟨_, rfl, rfl⟩
def Tn.z : List T := [.lit (.string ⟨#[]⟩), .lit (.int .i64 0), .lit (.int .i64 0)]
theorem tm_look (m : List (ByteArray × Tn)) (n : ByteArray) : ∃ a c, (mget n (mapT Tn.t m)).getD (.agg Tn.z) = .agg [.lit (.string a), .lit (.int .i64 (oldOf m n)), .lit (.int .i64 c)] := by
  rw [mget_T]
  unfold oldOf
  cases gget n m with
  | none => exact ⟨_, _, rfl⟩
  | some t => obtain ⟨a, o, w⟩ := t; exact ⟨a, w, rfl⟩
set_option maxRecDepth 100000 in
set_option maxHeartbeats 4000000 in
theorem turns_af (o w : List Pk) (hos : ∀ p ∈ o, p.name.size ≤ 1048576) (hws : ∀ p ∈ w, p.name.size ≤ 1048576) : AF Try.prog 22 [Pk.row o, Pk.row w] (· = .tup [Tn.row (turnsV o w).1, .lit (.int .i64 (turnsV o w).2)]) := by
  have h1 := lockCheck_af o hos
  have h2 := lockCheck_af w hws
  have ho := @lockF_ok o
  have hw := @lockF_ok w
  unfold turnsV
  generalize lockF o = e1 at *
  generalize lockF w = e2 at *
  cases d1 : decide (e1 = 0)
  · clear ho hw
    refine af_enter tok Try.func22 Try.ntmps22 Try.results22 rfl (by kernel_rfl) rfl rfl fun F hX => ?_
    repeat (first | refine gG ?_ | refine zN1 (fun hlen => ?_) | refine zN2 (fun hlen => ?_) | refine zAl (fun _ => ?_) | refine zAp (fun _ => ?_))
    refine zMm (fun b6 => ?_)
    repeat (first | refine gG ?_ | refine zN1 (fun hlen => ?_) | refine zN2 (fun hlen => ?_) | refine zAl (fun _ => ?_) | refine zAp (fun _ => ?_))
    refine zCall (h1) ?_
    rintro _ rfl
    repeat (first | refine gG ?_ | refine zN1 (fun hlen => ?_) | refine zN2 (fun hlen => ?_) | refine zAl (fun _ => ?_) | refine zAp (fun _ => ?_))
    first | refine zR (ts := [Tn.row [], .lit (.int .i64 e1)]) ?_ | refine zQ (ts := [Tn.row [], .lit (.int .i64 e1)]) ?_
    rfl
  cases d2 : decide (e2 = 0)
  · clear ho hw
    refine af_enter tok Try.func22 Try.ntmps22 Try.results22 rfl (by kernel_rfl) rfl rfl fun F hX => ?_
    repeat (first | refine gG ?_ | refine zN1 (fun hlen => ?_) | refine zN2 (fun hlen => ?_) | refine zAl (fun _ => ?_) | refine zAp (fun _ => ?_))
    refine zMm (fun b6 => ?_)
    repeat (first | refine gG ?_ | refine zN1 (fun hlen => ?_) | refine zN2 (fun hlen => ?_) | refine zAl (fun _ => ?_) | refine zAp (fun _ => ?_))
    refine zCall (h1) ?_
    rintro _ rfl
    repeat (first | refine gG ?_ | refine zN1 (fun hlen => ?_) | refine zN2 (fun hlen => ?_) | refine zAl (fun _ => ?_) | refine zAp (fun _ => ?_))
    refine zCall (h2) ?_
    rintro _ rfl
    repeat (first | refine gG ?_ | refine zN1 (fun hlen => ?_) | refine zN2 (fun hlen => ?_) | refine zAl (fun _ => ?_) | refine zAp (fun _ => ?_))
    first | refine zR (ts := [Tn.row [], .lit (.int .i64 e2)]) ?_ | refine zQ (ts := [Tn.row [], .lit (.int .i64 e2)]) ?_
    rfl
  replace ho := ho (of_decide_eq_true d1)
  replace hw := hw (of_decide_eq_true d2)
  have hol := ho.len
  have hwl := hw.len
  rw [cond_true, cond_true]
  dsimp only
  refine af_enter tok Try.func22 Try.ntmps22 Try.results22 rfl (by kernel_rfl) rfl rfl fun F hX => ?_
  repeat (first | refine gG ?_ | refine zN1 (fun hlen => ?_) | refine zN2 (fun hlen => ?_) | refine zAl (fun _ => ?_) | refine zAp (fun _ => ?_))
  refine zMm (fun b6 => ?_)
  repeat (first | refine gG ?_ | refine zN1 (fun hlen => ?_) | refine zN2 (fun hlen => ?_) | refine zAl (fun _ => ?_) | refine zAp (fun _ => ?_))
  refine zCall (h1) ?_
  rintro _ rfl
  repeat (first | refine gG ?_ | refine zN1 (fun hlen => ?_) | refine zN2 (fun hlen => ?_) | refine zAl (fun _ => ?_) | refine zAp (fun _ => ?_))
  refine zCall (h2) ?_
  rintro _ rfl
  clear h1 h2
  repeat (first | refine gG ?_ | refine zN1 (fun hlen => ?_) | refine zN2 (fun hlen => ?_) | refine zAl (fun _ => ?_) | refine zAp (fun _ => ?_))
  refine x_loop [10, 30, 31, 32, 33, 34, 35, 36, 37, 38, 39, 40, 41, 42] (fun k : Nat => [(30, .c (.lit (.int .i64 (k : Nat))))]) (fun k => [.mp b6 (mkeys Value.string (mapT Tn.t (tm1 (o.take k))))]) (fun k => k ≤ o.length) (fun k => o.length - k) 0 (Nat.zero_le _) ⟨rfl, trivial⟩ rfl ?_
  rintro k hk
  repeat (first | refine gG ?_ | refine zN1 (fun hlen => ?_) | refine zN2 (fun hlen => ?_) | refine zAl (fun _ => ?_) | refine zAp (fun _ => ?_))
  refine x_cond rfl (fun h => ?_) (fun h => ?_)
  · have hk' : k < o.length := by simpa using h
    obtain ⟨p, hp⟩ := nth hk'
    have hat := Pk.at hp
    have hsn := tm1_snoc hp
    clear h hp ho hw
    generalize tm1 (o.take k) = m at *
    generalize hM : tm1 (o.take (k + 1)) = m' at *
    obtain ⟨nm, v⟩ := p
    have hup : mput nm (.agg [.lit (.string nm), .lit (.int .i64 v), .lit (.int .i64 0)]) (mapT Tn.t m) = mapT Tn.t m' := by rw [hsn]; exact mput_T Tn.t nm ⟨nm, v, 0⟩ m
    repeat (first | refine gG ?_ | refine zN1 (fun hlen => ?_) | refine zN2 (fun hlen => ?_) | refine zAl (fun _ => ?_) | refine zAp (fun _ => ?_))
    refine zIx (k) (hk') ?_
    repeat (first | refine gG ?_ | refine zN1 (fun hlen => ?_) | refine zN2 (fun hlen => ?_) | refine zAl (fun _ => ?_) | refine zAp (fun _ => ?_))
    refine zEl (hat) (Pk.ts_len _) ?_
    repeat (first | refine gG ?_ | refine zN1 (fun hlen => ?_) | refine zN2 (fun hlen => ?_) | refine zAl (fun _ => ?_) | refine zAp (fun _ => ?_))
    refine zUpt 9 49 hup ?_
    repeat (first | refine gG ?_ | refine zN1 (fun hlen => ?_) | refine zN2 (fun hlen => ?_) | refine zAl (fun _ => ?_) | refine zAp (fun _ => ?_))
    exact ⟨k + 1, hk', by omega, x_wkd 1 ⟨rfl, trivial⟩ (by rw [hM]; rfl) (by repeat (first | exact ag_refl | refine ag_upd rfl ?_ | refine ag_at rfl rfl ?_))⟩
  have hk' : k = o.length := by
    have : ¬ k < o.length := by simpa using h
    omega
  subst hk'
  rw [List.take_length]
  clear h hk
  repeat (first | refine gG ?_ | refine zN1 (fun hlen => ?_) | refine zN2 (fun hlen => ?_) | refine zAl (fun _ => ?_) | refine zAp (fun _ => ?_))
  refine x_loop [12, 45, 46, 47, 48, 49, 50, 51, 52, 53, 54, 55, 56, 57, 58, 59, 60, 61, 62] (fun k : Nat => [(45, .c (.lit (.int .i64 (k : Nat))))]) (fun k => [.mp b6 (mkeys Value.string (mapT Tn.t (tm2 (tm1 o) (w.take k))))]) (fun k => k ≤ w.length) (fun k => w.length - k) 0 (Nat.zero_le _) ⟨rfl, trivial⟩ rfl ?_
  rintro k hk
  repeat (first | refine gG ?_ | refine zN1 (fun hlen => ?_) | refine zN2 (fun hlen => ?_) | refine zAl (fun _ => ?_) | refine zAp (fun _ => ?_))
  refine x_cond rfl (fun h => ?_) (fun h => ?_)
  · have hk' : k < w.length := by simpa using h
    obtain ⟨p, hp⟩ := nth hk'
    have hat := Pk.at hp
    have hsn := tm2_snoc (m := tm1 o) hp
    clear h hp ho hw
    generalize tm2 (tm1 o) (w.take k) = m at *
    generalize hM : tm2 (tm1 o) (w.take (k + 1)) = m' at *
    obtain ⟨nm, v⟩ := p
    obtain ⟨a, c, hlk⟩ := tm_look m nm
    have hup : mput nm (.agg [.lit (.string nm), .lit (.int .i64 (oldOf m nm)), .lit (.int .i64 v)]) (mapT Tn.t m) = mapT Tn.t m' := by rw [hsn]; exact mput_T Tn.t nm ⟨nm, oldOf m nm, v⟩ m
    generalize oldOf m nm = od at *
    repeat (first | refine gG ?_ | refine zN1 (fun hlen => ?_) | refine zN2 (fun hlen => ?_) | refine zAl (fun _ => ?_) | refine zAp (fun _ => ?_))
    refine zIx (k) (hk') ?_
    repeat (first | refine gG ?_ | refine zN1 (fun hlen => ?_) | refine zN2 (fun hlen => ?_) | refine zAl (fun _ => ?_) | refine zAp (fun _ => ?_))
    refine zEl (hat) (Pk.ts_len _) ?_
    repeat (first | refine gG ?_ | refine zN1 (fun hlen => ?_) | refine zN2 (fun hlen => ?_) | refine zAl (fun _ => ?_) | refine zAp (fun _ => ?_))
    refine zLksn 9 49 (zs := Tn.z) hlk ?_
    repeat (first | refine gG ?_ | refine zN1 (fun hlen => ?_) | refine zN2 (fun hlen => ?_) | refine zAl (fun _ => ?_) | refine zAp (fun _ => ?_))
    refine zFd1 3 ?_
    repeat (first | refine gG ?_ | refine zN1 (fun hlen => ?_) | refine zN2 (fun hlen => ?_) | refine zAl (fun _ => ?_) | refine zAp (fun _ => ?_))
    refine zUpt 9 49 hup ?_
    repeat (first | refine gG ?_ | refine zN1 (fun hlen => ?_) | refine zN2 (fun hlen => ?_) | refine zAl (fun _ => ?_) | refine zAp (fun _ => ?_))
    exact ⟨k + 1, hk', by omega, x_wkd 1 ⟨rfl, trivial⟩ (by rw [hM]; rfl) (by repeat (first | exact ag_refl | refine ag_upd rfl ?_ | refine ag_at rfl rfl ?_))⟩
  have hk' : k = w.length := by
    have : ¬ k < w.length := by simpa using h
    omega
  subst hk'
  rw [List.take_length]
  clear h hk
  have hnd : ((mapT Tn.t (tm2 (tm1 o) w)).map (·.1)).Nodup := by rw [mapT_keys]; exact tm_nodup o w
  have hle := tm_len o w
  have hperm := names_perm ho hw
  have hget := fun n (h : n ∈ namesU o w) => (tm_get ho.asc.names hw.asc.names n).1 ((names_mem ho n).1 h)
  have hnsz : ∀ p ∈ mapT Tn.t (tm2 (tm1 o) w), p.1.size ≤ maxLen := fun p hp => by
    have h1 : p.1 ∈ (mapT Tn.t (tm2 (tm1 o) w)).map (·.1) := List.mem_map.2 ⟨p, hp, rfl⟩
    rw [mapT_keys] at h1
    have h2 := (names_mem ho p.1).1 (hperm.mem_iff.1 h1)
    have h3 : p.1.size ≤ 16 := by
      rcases h2 with h2 | h2
      · obtain ⟨q, hq, he⟩ := List.mem_map.1 h2
        rw [← he]; exact nameOk_size (ho.name q hq)
      · obtain ⟨q, hq, he⟩ := List.mem_map.1 h2
        rw [← he]; exact nameOk_size (hw.name q hq)
    unfold maxLen; omega
  have hsrt := sortedTurn_ag (mapT Tn.t (tm2 (tm1 o) w)) hnd hnsz (by rw [mapT_len]; omega)
  have hks := keysTurn_ag b6 (mkeys Value.string (mapT Tn.t (tm2 (tm1 o) w)))
  rw [mapT_keys, sortB_eq hperm] at hsrt
  unfold turnsL
  have hlk : ∀ n ∈ sortB (namesU o w), (mget n (mapT Tn.t (tm2 (tm1 o) w))).getD (.agg Tn.z) = .agg [.lit (.string n), .lit (.int .i64 (va o n)), .lit (.int .i64 (va w n))] := fun n hn => by
    rw [mget_T, hget n ((sortB_perm _).mem_iff.1 hn)]
    rfl
  have hsl : (sortB (namesU o w)).length ≤ 60 := by have := names_len o w; rw [sortB_len]; omega
  clear hget hperm hnd hnsz hle ho hw hol hwl
  generalize sortB (namesU o w) = ns at *
  generalize mapT Tn.t (tm2 (tm1 o) w) = MT at *
  repeat (first | refine gG ?_ | refine zN1 (fun hlen => ?_) | refine zN2 (fun hlen => ?_) | refine zAl (fun _ => ?_) | refine zAp (fun _ => ?_))
  refine zCallG [0] hks ?_
  rintro _ _ ⟨bb, rfl, rfl⟩
  refine ⟨.fn (.func 90) [.ptr 1 bb 0], _, re_refl, rfl, rfl, ?_⟩
  repeat (first | refine gG ?_ | refine zN1 (fun hlen => ?_) | refine zN2 (fun hlen => ?_) | refine zAl (fun _ => ?_) | refine zAp (fun _ => ?_))
  refine zCallG [1, 0] (hsrt bb b6 97 1 0) ?_
  rintro _ _ ⟨vs, rfl, rfl⟩
  refine ⟨.own 2 vs, _, re_own, rfl, rfl, ?_⟩
  clear hks hsrt
  repeat (first | refine gG ?_ | refine zN1 (fun hlen => ?_) | refine zN2 (fun hlen => ?_) | refine zAl (fun _ => ?_) | refine zAp (fun _ => ?_))
  refine x_fz 65 rfl rfl rfl rfl ?_
  refine x_own 13 49 3 rfl rfl rfl rfl rfl ?_
  refine x_loop [13, 15, 16, 67, 68, 69, 70, 71, 72, 73, 74, 75, 76, 77, 78, 79, 80, 81, 82, 83] (fun y : Nat × Value => [(67, .c (.lit (.int .i64 (y.1 : Nat)))), (13, .own 3 y.2)]) (fun y => [.mp b6 (mkeys Value.string MT), .box bb 97 [.own 0 (.map (some b6))], .dead, .row y.2 49 3 (turnsOf o w (ns.take y.1)).length ((turnsOf o w (ns.take y.1)).flatMap Tn.ts)])
    (fun y => y.1 ≤ ns.length) (fun y => ns.length - y.1) (0, .slice none 0 0) (Nat.zero_le _) ⟨rfl, rfl, trivial⟩ rfl ?_
  rintro ⟨k, u⟩ hk
  dsimp only at hk ⊢
  repeat (first | refine gG ?_ | refine zN1 (fun hlen => ?_) | refine zN2 (fun hlen => ?_) | refine zAl (fun _ => ?_) | refine zAp (fun _ => ?_))
  refine x_cond rfl (fun h => ?_) (fun h => ?_)
  · have hk' : k < ns.length := by simpa using h
    obtain ⟨n, hn⟩ := nth hk'
    have g1 : (ns.flatMap strTs)[k * 1]? = some (.lit (.string n)) := by rw [Nat.mul_one]; exact str_at hn
    have hlk := hlk n (List.mem_of_getElem? hn)
    have hsn := turns_snoc (o := o) (w := w) hn
    have hlt := turns_len o w (ns.take k)
    rw [List.length_take] at hlt
    clear h hn
    generalize turnsOf o w (ns.take k) = X at *
    generalize hX : turnsOf o w (ns.take (k + 1)) = X' at *
    cases d3 : decide (va o n = va w n)
    · rw [d3, cond_false] at hsn
      have hone : X'.length = X.length + 1 ∧ X'.flatMap Tn.ts = X.flatMap Tn.ts ++ Tn.ts (tnOf o w n) := by rw [hsn]; simp
      generalize hvo : va o n = a at *
      generalize hvw : va w n = c at *
      have ht : Tn.ts (tnOf o w n) = [.lit (.string n), .lit (.int .i64 a), .lit (.int .i64 c)] := by unfold tnOf; rw [hvo, hvw]; rfl
      rw [ht] at hone
      repeat (first | refine gG ?_ | refine zN1 (fun hlen => ?_) | refine zN2 (fun hlen => ?_) | refine zAl (fun _ => ?_) | refine zAp (fun _ => ?_))
      refine zIx k hk' ?_
      repeat (first | refine gG ?_ | refine zN1 (fun hlen => ?_) | refine zN2 (fun hlen => ?_) | refine zAl (fun _ => ?_) | refine zAp (fun _ => ?_))
      refine zEl1 g1 ?_
      repeat (first | refine gG ?_ | refine zN1 (fun hlen => ?_) | refine zN2 (fun hlen => ?_) | refine zAl (fun _ => ?_) | refine zAp (fun _ => ?_))
      refine zLksn 9 49 (zs := Tn.z) hlk ?_
      repeat (first | refine gG ?_ | refine zN1 (fun hlen => ?_) | refine zN2 (fun hlen => ?_) | refine zAl (fun _ => ?_) | refine zAp (fun _ => ?_))
      exact ⟨(k + 1, _), hk', by simp only; omega, x_wkd 4 ⟨rfl, rfl, trivial⟩ (by dsimp only; rw [hX, hone.1, hone.2]; rfl) (by repeat (first | exact ag_refl | refine ag_upd rfl ?_ | refine ag_at rfl rfl ?_))⟩
    · rw [d3, cond_true, List.append_nil] at hsn
      generalize hvo : va o n = a at *
      generalize hvw : va w n = c at *
      repeat (first | refine gG ?_ | refine zN1 (fun hlen => ?_) | refine zN2 (fun hlen => ?_) | refine zAl (fun _ => ?_) | refine zAp (fun _ => ?_))
      refine zIx k hk' ?_
      repeat (first | refine gG ?_ | refine zN1 (fun hlen => ?_) | refine zN2 (fun hlen => ?_) | refine zAl (fun _ => ?_) | refine zAp (fun _ => ?_))
      refine zEl1 g1 ?_
      repeat (first | refine gG ?_ | refine zN1 (fun hlen => ?_) | refine zN2 (fun hlen => ?_) | refine zAl (fun _ => ?_) | refine zAp (fun _ => ?_))
      refine zLksn 9 49 (zs := Tn.z) hlk ?_
      repeat (first | refine gG ?_ | refine zN1 (fun hlen => ?_) | refine zN2 (fun hlen => ?_) | refine zAl (fun _ => ?_) | refine zAp (fun _ => ?_))
      exact ⟨(k + 1, _), hk', by simp only; omega, x_wkd 4 ⟨rfl, rfl, trivial⟩ (by dsimp only; rw [hX, hsn]; rfl) (by repeat (first | exact ag_refl | refine ag_upd rfl ?_ | refine ag_at rfl rfl ?_))⟩
  · have hk' : k = ns.length := by
      have : ¬ k < ns.length := by simpa using h
      omega
    subst hk'
    rw [List.take_length]
    clear h
    repeat (first | refine gG ?_ | refine zN1 (fun hlen => ?_) | refine zN2 (fun hlen => ?_) | refine zAl (fun _ => ?_) | refine zAp (fun _ => ?_))
    first | refine zR (ts := [Tn.row (turnsOf o w ns), .lit (.int .i64 0)]) ?_ | refine zQ (ts := [Tn.row (turnsOf o w ns), .lit (.int .i64 0)]) ?_
    rfl
end Go.Proofs.Ytnkafjkcjpajgaa
namespace Go.Proofs.Ytnkafjkcjpajgaa
open Go.RowKit
def nmTo (o w : List Pk) (k : Nat) : List ByteArray := o.map Pk.name ++ ((w.take k).filter fun p => decide (va o p.name = 0)).map Pk.name
theorem nmTo_zero (o w : List Pk) : nmTo o w 0 = o.map Pk.name := by simp [nmTo]
theorem nmTo_all (o w : List Pk) : nmTo o w w.length = namesU o w := by simp [nmTo, namesU]
theorem nmTo_snoc {o w : List Pk} {k : Nat} {p : Pk} (h : w[k]? = some p) : nmTo o w (k + 1) = nmTo o w k ++ (bif decide (va o p.name = 0) then [p.name] else []) := by
  obtain ⟨h1, rfl⟩ := List.getElem?_eq_some_iff.1 h
  unfold nmTo
  rw [List.take_succ_eq_append_getElem h1, List.filter_append, List.map_append, ← List.append_assoc]
  congr 1
  rw [List.filter_cons]
  cases decide (va o w[k].name = 0) <;> rfl
theorem nmTo_len (o w : List Pk) (k : Nat) (hk : k ≤ w.length) : (nmTo o w k).length ≤ o.length + k := by
  unfold nmTo
  have := List.length_filter_le (fun p => decide (va o p.name = 0)) (w.take k)
  rw [List.length_take] at this
  simp only [List.length_append, List.length_map]
  omega
theorem names_snoc {l : List Pk} {k : Nat} {p : Pk} (h : l[k]? = some p) : (l.take (k + 1)).map Pk.name = (l.take k).map Pk.name ++ [p.name] := by
  obtain ⟨h1, rfl⟩ := List.getElem?_eq_some_iff.1 h
  rw [List.take_succ_eq_append_getElem h1, List.map_append]
  rfl
theorem strs_snoc (X : List ByteArray) (n : ByteArray) : (X ++ [n]).length = X.length + 1 ∧ (X ++ [n]).flatMap strTs = X.flatMap strTs ++ [.lit (.string n)] := by
  constructor
  · simp
  · rw [List.flatMap_append]; rfl
set_option maxRecDepth 100000 in
set_option maxHeartbeats 4000000 in
theorem lockTurns_af (o w : List Pk) (hos : ∀ p ∈ o, p.name.size ≤ 1048576) (hws : ∀ p ∈ w, p.name.size ≤ 1048576) : AF Try.prog 23 [Pk.row o, Pk.row w] (· = .tup [Tn.row (turnsV o w).1, .lit (.int .i64 (turnsV o w).2)]) := by
  have h1 := lockFault_af o hos
  have h2 := lockFault_af w hws
  have ho := @lockF_ok o
  have hw := @lockF_ok w
  unfold turnsV
  generalize lockF o = e1 at *
  generalize lockF w = e2 at *
  cases d1 : decide (e1 = 0)
  · clear ho hw
    refine af_enter tok Try.func23 Try.ntmps23 Try.results23 rfl (by kernel_rfl) rfl rfl fun F hX => ?_
    repeat (first | refine gG ?_ | refine zN1 (fun hlen => ?_) | refine zN2 (fun hlen => ?_) | refine zAl (fun _ => ?_) | refine zAp (fun _ => ?_))
    refine zCall (h1) ?_
    rintro _ rfl
    repeat (first | refine gG ?_ | refine zN1 (fun hlen => ?_) | refine zN2 (fun hlen => ?_) | refine zAl (fun _ => ?_) | refine zAp (fun _ => ?_))
    first | refine zR (ts := [Tn.row [], .lit (.int .i64 e1)]) ?_ | refine zQ (ts := [Tn.row [], .lit (.int .i64 e1)]) ?_
    rfl
  cases d2 : decide (e2 = 0)
  · clear ho hw
    refine af_enter tok Try.func23 Try.ntmps23 Try.results23 rfl (by kernel_rfl) rfl rfl fun F hX => ?_
    repeat (first | refine gG ?_ | refine zN1 (fun hlen => ?_) | refine zN2 (fun hlen => ?_) | refine zAl (fun _ => ?_) | refine zAp (fun _ => ?_))
    refine zCall (h1) ?_
    rintro _ rfl
    repeat (first | refine gG ?_ | refine zN1 (fun hlen => ?_) | refine zN2 (fun hlen => ?_) | refine zAl (fun _ => ?_) | refine zAp (fun _ => ?_))
    refine zCall (h2) ?_
    rintro _ rfl
    repeat (first | refine gG ?_ | refine zN1 (fun hlen => ?_) | refine zN2 (fun hlen => ?_) | refine zAl (fun _ => ?_) | refine zAp (fun _ => ?_))
    first | refine zR (ts := [Tn.row [], .lit (.int .i64 e2)]) ?_ | refine zQ (ts := [Tn.row [], .lit (.int .i64 e2)]) ?_
    rfl
  replace ho := ho (of_decide_eq_true d1)
  replace hw := hw (of_decide_eq_true d2)
  have hol := ho.len
  have hwl := hw.len
  have hov := fun n => im_va ho.asc.names n
  have hwv := fun n => im_va hw.asc.names n
  clear ho hw
  rw [cond_true, cond_true]
  dsimp only
  refine af_enter tok Try.func23 Try.ntmps23 Try.results23 rfl (by kernel_rfl) rfl rfl fun F hX => ?_
  repeat (first | refine gG ?_ | refine zN1 (fun hlen => ?_) | refine zN2 (fun hlen => ?_) | refine zAl (fun _ => ?_) | refine zAp (fun _ => ?_))
  refine zCall (h1) ?_
  rintro _ rfl
  repeat (first | refine gG ?_ | refine zN1 (fun hlen => ?_) | refine zN2 (fun hlen => ?_) | refine zAl (fun _ => ?_) | refine zAp (fun _ => ?_))
  refine zCall (h2) ?_
  rintro _ rfl
  clear h1 h2
  repeat (first | refine gG ?_ | refine zN1 (fun hlen => ?_) | refine zN2 (fun hlen => ?_) | refine zAl (fun _ => ?_) | refine zAp (fun _ => ?_))
  refine zMm (fun b8 => ?_)
  repeat (first | refine gG ?_ | refine zN1 (fun hlen => ?_) | refine zN2 (fun hlen => ?_) | refine zAl (fun _ => ?_) | refine zAp (fun _ => ?_))
  refine zMm (fun b9 => ?_)
  repeat (first | refine gG ?_ | refine zN1 (fun hlen => ?_) | refine zN2 (fun hlen => ?_) | refine zAl (fun _ => ?_) | refine zAp (fun _ => ?_))
  refine x_own 10 9 1 rfl rfl rfl rfl rfl ?_
  refine x_loop [10, 12, 32, 33, 34, 35, 36, 37, 38, 39, 40, 41, 42, 43, 44, 45, 46] (fun y : Nat × Value => [(32, .c (.lit (.int .i64 (y.1 : Nat)))), (10, .own 2 y.2)]) (fun y => [.mp b8 (mkeys Value.string (mapT iT (im (o.take y.1)))), .mp b9 (mkeys Value.string (mapT iT [])), .row y.2 9 1 ((o.take y.1).map Pk.name).length (((o.take y.1).map Pk.name).flatMap strTs)])
    (fun y => y.1 ≤ o.length) (fun y => o.length - y.1) (0, .slice none 0 0) (Nat.zero_le _) ⟨rfl, rfl, trivial⟩ rfl ?_
  rintro ⟨k, v⟩ hk
  dsimp only at hk ⊢
  repeat (first | refine gG ?_ | refine zN1 (fun hlen => ?_) | refine zN2 (fun hlen => ?_) | refine zAl (fun _ => ?_) | refine zAp (fun _ => ?_))
  refine x_cond rfl (fun h => ?_) (fun h => ?_)
  · have hk' : k < o.length := by simpa using h
    obtain ⟨p, hp⟩ := nth hk'
    have hat := Pk.at hp
    have hsn := im_snoc hp
    have hnn := names_snoc hp
    have hle : ((o.take k).map Pk.name).length ≤ 30 := by rw [List.length_map, List.length_take]; omega
    clear h hp hov hwv
    generalize im (o.take k) = m at *
    generalize hM : im (o.take (k + 1)) = m' at *
    generalize (o.take k).map Pk.name = X at *
    generalize hX : (o.take (k + 1)).map Pk.name = X' at *
    obtain ⟨nm, vv⟩ := p
    have hone := strs_snoc X nm
    rw [← hnn] at hone
    have hup : mput nm (.lit (.int .i64 vv)) (mapT iT m) = mapT iT m' := by rw [hsn]; exact mput_T iT nm vv m
    repeat (first | refine gG ?_ | refine zN1 (fun hlen => ?_) | refine zN2 (fun hlen => ?_) | refine zAl (fun _ => ?_) | refine zAp (fun _ => ?_))
    refine zIx (k) (hk') ?_
    repeat (first | refine gG ?_ | refine zN1 (fun hlen => ?_) | refine zN2 (fun hlen => ?_) | refine zAl (fun _ => ?_) | refine zAp (fun _ => ?_))
    refine zEl (hat) (Pk.ts_len _) ?_
    repeat (first | refine gG ?_ | refine zN1 (fun hlen => ?_) | refine zN2 (fun hlen => ?_) | refine zAl (fun _ => ?_) | refine zAp (fun _ => ?_))
    refine zUpt 9 3 hup ?_
    repeat (first | refine gG ?_ | refine zN1 (fun hlen => ?_) | refine zN2 (fun hlen => ?_) | refine zAl (fun _ => ?_) | refine zAp (fun _ => ?_))
    exact ⟨(k + 1, _), hk', by simp only; omega, x_wkd 3 ⟨rfl, rfl, trivial⟩ (by dsimp only; rw [hM, hX, hone.1, hone.2]; rfl) (by repeat (first | exact ag_refl | refine ag_upd rfl ?_ | refine ag_at rfl rfl ?_))⟩
  have hk' : k = o.length := by
    have : ¬ k < o.length := by simpa using h
    omega
  subst hk'
  rw [List.take_length, ← nmTo_zero o w]
  clear h hk
  repeat (first | refine gG ?_ | refine zN1 (fun hlen => ?_) | refine zN2 (fun hlen => ?_) | refine zAl (fun _ => ?_) | refine zAp (fun _ => ?_))
  refine x_loop [10, 14, 49, 50, 51, 52, 53, 54, 55, 56, 57, 58, 59, 60, 61, 62, 63, 64, 65, 66, 67, 68] (fun y : Nat × Value => [(49, .c (.lit (.int .i64 (y.1 : Nat)))), (10, .own 2 y.2)]) (fun y => [.mp b8 (mkeys Value.string (mapT iT (im o))), .mp b9 (mkeys Value.string (mapT iT (im (w.take y.1)))), .row y.2 9 1 (nmTo o w y.1).length ((nmTo o w y.1).flatMap strTs)])
    (fun y => y.1 ≤ w.length) (fun y => w.length - y.1) (0, v) (Nat.zero_le _) ⟨rfl, rfl, trivial⟩ rfl ?_
  rintro ⟨k, u⟩ hk
  dsimp only at hk ⊢
  repeat (first | refine gG ?_ | refine zN1 (fun hlen => ?_) | refine zN2 (fun hlen => ?_) | refine zAl (fun _ => ?_) | refine zAp (fun _ => ?_))
  refine x_cond rfl (fun h => ?_) (fun h => ?_)
  · have hk' : k < w.length := by simpa using h
    obtain ⟨p, hp⟩ := nth hk'
    have hat := Pk.at hp
    have hsn := im_snoc hp
    have hnn := nmTo_snoc (o := o) hp
    have hle := nmTo_len o w k (by omega)
    have hlk : (mget p.name (mapT iT (im o))).getD (.lit (.int .i64 0)) = .lit (.int .i64 (va o p.name)) := by
      rw [mget_T, ← hov p.name]
      cases gget p.name (im o) <;> rfl
    clear h hp hov hwv
    generalize mapT iT (im o) = MO at *
    generalize im (w.take k) = m at *
    generalize hM : im (w.take (k + 1)) = m' at *
    generalize nmTo o w k = X at *
    generalize hX : nmTo o w (k + 1) = X' at *
    obtain ⟨nm, vv⟩ := p
    dsimp only at hlk hnn
    generalize va o nm = a at *
    have hone := strs_snoc X nm
    have hup : mput nm (.lit (.int .i64 vv)) (mapT iT m) = mapT iT m' := by rw [hsn]; exact mput_T iT nm vv m
    cases d3 : decide (a = 0)
    · rw [d3, cond_false, List.append_nil] at hnn
      repeat (first | refine gG ?_ | refine zN1 (fun hlen => ?_) | refine zN2 (fun hlen => ?_) | refine zAl (fun _ => ?_) | refine zAp (fun _ => ?_))
      refine zIx (k) (hk') ?_
      repeat (first | refine gG ?_ | refine zN1 (fun hlen => ?_) | refine zN2 (fun hlen => ?_) | refine zAl (fun _ => ?_) | refine zAp (fun _ => ?_))
      refine zEl (hat) (Pk.ts_len _) ?_
      repeat (first | refine gG ?_ | refine zN1 (fun hlen => ?_) | refine zN2 (fun hlen => ?_) | refine zAl (fun _ => ?_) | refine zAp (fun _ => ?_))
      refine zLks 9 3 hlk ?_
      repeat (first | refine gG ?_ | refine zN1 (fun hlen => ?_) | refine zN2 (fun hlen => ?_) | refine zAl (fun _ => ?_) | refine zAp (fun _ => ?_))
      refine zUpt 9 3 hup ?_
      repeat (first | refine gG ?_ | refine zN1 (fun hlen => ?_) | refine zN2 (fun hlen => ?_) | refine zAl (fun _ => ?_) | refine zAp (fun _ => ?_))
      exact ⟨(k + 1, _), hk', by simp only; omega, x_wkd 3 ⟨rfl, rfl, trivial⟩ (by dsimp only; rw [hM, hX, hnn]; rfl) (by repeat (first | exact ag_refl | refine ag_upd rfl ?_ | refine ag_at rfl rfl ?_))⟩
    · rw [d3, cond_true] at hnn
      rw [← hnn] at hone
      repeat (first | refine gG ?_ | refine zN1 (fun hlen => ?_) | refine zN2 (fun hlen => ?_) | refine zAl (fun _ => ?_) | refine zAp (fun _ => ?_))
      refine zIx (k) (hk') ?_
      repeat (first | refine gG ?_ | refine zN1 (fun hlen => ?_) | refine zN2 (fun hlen => ?_) | refine zAl (fun _ => ?_) | refine zAp (fun _ => ?_))
      refine zEl (hat) (Pk.ts_len _) ?_
      repeat (first | refine gG ?_ | refine zN1 (fun hlen => ?_) | refine zN2 (fun hlen => ?_) | refine zAl (fun _ => ?_) | refine zAp (fun _ => ?_))
      refine zLks 9 3 hlk ?_
      repeat (first | refine gG ?_ | refine zN1 (fun hlen => ?_) | refine zN2 (fun hlen => ?_) | refine zAl (fun _ => ?_) | refine zAp (fun _ => ?_))
      refine zUpt 9 3 hup ?_
      repeat (first | refine gG ?_ | refine zN1 (fun hlen => ?_) | refine zN2 (fun hlen => ?_) | refine zAl (fun _ => ?_) | refine zAp (fun _ => ?_))
      exact ⟨(k + 1, _), hk', by simp only; omega, x_wkd 3 ⟨rfl, rfl, trivial⟩ (by dsimp only; rw [hM, hX, hone.1, hone.2]; rfl) (by repeat (first | exact ag_refl | refine ag_upd rfl ?_ | refine ag_at rfl rfl ?_))⟩
  have hk' : k = w.length := by
    have : ¬ k < w.length := by simpa using h
    omega
  subst hk'
  rw [List.take_length, nmTo_all]
  clear h hk
  have hnl := names_len o w
  have hsrt := sorted_ag (namesU o w) (by omega)
  unfold turnsL
  have hsl : (sortB (namesU o w)).length ≤ 60 := by rw [sortB_len]; omega
  have hlo : ∀ n, (mget n (mapT iT (im o))).getD (.lit (.int .i64 0)) = .lit (.int .i64 (va o n)) := fun n => by
    rw [mget_T, ← hov n]
    cases gget n (im o) <;> rfl
  have hlw : ∀ n, (mget n (mapT iT (im w))).getD (.lit (.int .i64 0)) = .lit (.int .i64 (va w n)) := fun n => by
    rw [mget_T, ← hwv n]
    cases gget n (im w) <;> rfl
  clear hov hwv
  generalize mapT iT (im o) = MO at *
  generalize mapT iT (im w) = MW at *
  generalize sortB (namesU o w) = ns at *
  refine x_fz 10 rfl rfl rfl rfl ?_
  repeat (first | refine gG ?_ | refine zN1 (fun hlen => ?_) | refine zN2 (fun hlen => ?_) | refine zAl (fun _ => ?_) | refine zAp (fun _ => ?_))
  refine zCallG [] hsrt ?_
  rintro _ _ ⟨vs, rfl, rfl⟩
  refine ⟨.own 3 vs, _, re_own, rfl, rfl, ?_⟩
  clear hsrt
  repeat (first | refine gG ?_ | refine zN1 (fun hlen => ?_) | refine zN2 (fun hlen => ?_) | refine zAl (fun _ => ?_) | refine zAp (fun _ => ?_))
  refine x_fz 70 rfl rfl rfl rfl ?_
  refine x_own 15 49 3 rfl rfl rfl rfl rfl ?_
  refine x_loop [15, 17, 72, 73, 74, 75, 76, 77, 78, 79, 80, 81, 82, 83, 84, 85, 86, 87, 88, 89, 90, 91, 92, 93, 94] (fun y : Nat × Value => [(72, .c (.lit (.int .i64 (y.1 : Nat)))), (15, .own 4 y.2)]) (fun y => [.mp b8 (mkeys Value.string MO), .mp b9 (mkeys Value.string MW), .dead, .dead, .row y.2 49 3 (turnsOf o w (ns.take y.1)).length ((turnsOf o w (ns.take y.1)).flatMap Tn.ts)])
    (fun y => y.1 ≤ ns.length) (fun y => ns.length - y.1) (0, .slice none 0 0) (Nat.zero_le _) ⟨rfl, rfl, trivial⟩ rfl ?_
  rintro ⟨k, u⟩ hk
  dsimp only at hk ⊢
  repeat (first | refine gG ?_ | refine zN1 (fun hlen => ?_) | refine zN2 (fun hlen => ?_) | refine zAl (fun _ => ?_) | refine zAp (fun _ => ?_))
  refine x_cond rfl (fun h => ?_) (fun h => ?_)
  · have hk' : k < ns.length := by simpa using h
    obtain ⟨n, hn⟩ := nth hk'
    have g1 : (ns.flatMap strTs)[k * 1]? = some (.lit (.string n)) := by rw [Nat.mul_one]; exact str_at hn
    have hlo := hlo n
    have hlw := hlw n
    have hsn := turns_snoc (o := o) (w := w) hn
    have hlt := turns_len o w (ns.take k)
    rw [List.length_take] at hlt
    clear h hn
    generalize turnsOf o w (ns.take k) = X at *
    generalize hX : turnsOf o w (ns.take (k + 1)) = X' at *
    cases d3 : decide (va o n = va w n)
    · rw [d3, cond_false] at hsn
      have hone : X'.length = X.length + 1 ∧ X'.flatMap Tn.ts = X.flatMap Tn.ts ++ Tn.ts (tnOf o w n) := by rw [hsn]; simp
      generalize hvo : va o n = a at *
      generalize hvw : va w n = c at *
      have ht : Tn.ts (tnOf o w n) = [.lit (.string n), .lit (.int .i64 a), .lit (.int .i64 c)] := by unfold tnOf; rw [hvo, hvw]; rfl
      rw [ht] at hone
      repeat (first | refine gG ?_ | refine zN1 (fun hlen => ?_) | refine zN2 (fun hlen => ?_) | refine zAl (fun _ => ?_) | refine zAp (fun _ => ?_))
      refine zIx k hk' ?_
      repeat (first | refine gG ?_ | refine zN1 (fun hlen => ?_) | refine zN2 (fun hlen => ?_) | refine zAl (fun _ => ?_) | refine zAp (fun _ => ?_))
      refine zEl1 g1 ?_
      repeat (first | refine gG ?_ | refine zN1 (fun hlen => ?_) | refine zN2 (fun hlen => ?_) | refine zAl (fun _ => ?_) | refine zAp (fun _ => ?_))
      refine zLks 9 3 hlo ?_
      repeat (first | refine gG ?_ | refine zN1 (fun hlen => ?_) | refine zN2 (fun hlen => ?_) | refine zAl (fun _ => ?_) | refine zAp (fun _ => ?_))
      refine zLks 9 3 hlw ?_
      repeat (first | refine gG ?_ | refine zN1 (fun hlen => ?_) | refine zN2 (fun hlen => ?_) | refine zAl (fun _ => ?_) | refine zAp (fun _ => ?_))
      refine zLks 9 3 hlo ?_
      repeat (first | refine gG ?_ | refine zN1 (fun hlen => ?_) | refine zN2 (fun hlen => ?_) | refine zAl (fun _ => ?_) | refine zAp (fun _ => ?_))
      refine zLks 9 3 hlw ?_
      repeat (first | refine gG ?_ | refine zN1 (fun hlen => ?_) | refine zN2 (fun hlen => ?_) | refine zAl (fun _ => ?_) | refine zAp (fun _ => ?_))
      exact ⟨(k + 1, _), hk', by simp only; omega, x_wkd 5 ⟨rfl, rfl, trivial⟩ (by dsimp only; rw [hX, hone.1, hone.2]; rfl) (by repeat (first | exact ag_refl | refine ag_upd rfl ?_ | refine ag_at rfl rfl ?_))⟩
    · rw [d3, cond_true, List.append_nil] at hsn
      generalize hvo : va o n = a at *
      generalize hvw : va w n = c at *
      repeat (first | refine gG ?_ | refine zN1 (fun hlen => ?_) | refine zN2 (fun hlen => ?_) | refine zAl (fun _ => ?_) | refine zAp (fun _ => ?_))
      refine zIx k hk' ?_
      repeat (first | refine gG ?_ | refine zN1 (fun hlen => ?_) | refine zN2 (fun hlen => ?_) | refine zAl (fun _ => ?_) | refine zAp (fun _ => ?_))
      refine zEl1 g1 ?_
      repeat (first | refine gG ?_ | refine zN1 (fun hlen => ?_) | refine zN2 (fun hlen => ?_) | refine zAl (fun _ => ?_) | refine zAp (fun _ => ?_))
      refine zLks 9 3 hlo ?_
      repeat (first | refine gG ?_ | refine zN1 (fun hlen => ?_) | refine zN2 (fun hlen => ?_) | refine zAl (fun _ => ?_) | refine zAp (fun _ => ?_))
      refine zLks 9 3 hlw ?_
      repeat (first | refine gG ?_ | refine zN1 (fun hlen => ?_) | refine zN2 (fun hlen => ?_) | refine zAl (fun _ => ?_) | refine zAp (fun _ => ?_))
      exact ⟨(k + 1, _), hk', by simp only; omega, x_wkd 5 ⟨rfl, rfl, trivial⟩ (by dsimp only; rw [hX, hsn]; rfl) (by repeat (first | exact ag_refl | refine ag_upd rfl ?_ | refine ag_at rfl rfl ?_))⟩
  · have hk' : k = ns.length := by
      have : ¬ k < ns.length := by simpa using h
      omega
    subst hk'
    rw [List.take_length]
    clear h
    repeat (first | refine gG ?_ | refine zN1 (fun hlen => ?_) | refine zN2 (fun hlen => ?_) | refine zAl (fun _ => ?_) | refine zAp (fun _ => ?_))
    first | refine zR (ts := [Tn.row (turnsOf o w ns), .lit (.int .i64 0)]) ?_ | refine zQ (ts := [Tn.row (turnsOf o w ns), .lit (.int .i64 0)]) ?_
    rfl
theorem tn_fields : Try.prog.underlying 49 = some (.struct (Try.prog.fieldsOf 49)) := by kernel_rfl
theorem tn_held : Try.prog.stoodInHeld 49 = false := by kernel_rfl
theorem tn_guard : Try.prog.eqGuardType Try.prog.depth 49 = false := by kernel_rfl
set_option maxRecDepth 100000 in
theorem eq_tn (d : Nat) (s : ByteArray) (a b : Int) (w : World) :
    (Op.equalIn (d + 1 + 1) 49 (.agg [.string s, .int .i64 a, .int .i64 b].toArray) (.agg [.string s, .int .i64 a, .int .i64 b].toArray)).run Try.prog w = .ok true w := by
  rw [run_equalIn_struct w (d + 1) 49 _ _ tn_fields tn_held]
  have h1 := tn_fields
  rw [Try.underlying49] at h1
  injection h1 with h1
  injection h1 with h1
  rw [← h1]
  simp [Op.eqFields, part, Try.isAgg9, Try.isAgg3, run_equalIn_string w _ _ _ _ Try.underlying9, run_equalIn_int w _ _ _ _ _ _ Try.underlying3]
theorem lo_neqTn {F : Frm} {d : Option Tmp} {ty : TypeId} {pos : String} {aft : Array Edge} {g : Option (Nat × Bool)} {ρ : Operand → AV} {hp : List Blk} {K : AV → List Blk → Prop} {t' : TypeId} {x y : Operand} (u : Tn) (h : K (.c (.lit (.bool false))) hp) (hx : ρ x = .c (.agg u.ts)) (hy : ρ y = .c (.agg u.ts)) : LO Try.prog F ⟨d, .binOp .neq 49 x y t', ty, pos, aft, g⟩ ρ hp K := by
  obtain ⟨s, a, b⟩ := u
  refine LO.same (fun M e w he hh => ?_) h
  have h1 := he x (by simp [Op.operands])
  rw [hx] at h1
  have h2 := he y (by simp [Op.operands])
  rw [hy] at h2
  simp only [RA, RT, Tn.ts, RTs] at h1 h2
  obtain ⟨xs, h1, q0, r0, rfl, rfl, q1, r1, rfl, rfl, q2, r2, rfl, rfl, rfl⟩ := h1
  obtain ⟨ys, h2, q0, r0, rfl, rfl, q1, r1, rfl, rfl, q2, r2, rfl, rfl, rfl⟩ := h2
  refine ⟨.bool false, ?_, by simp only [RA, RT]⟩
  have hg := run_eqGuard_agg (P := Try.prog) w .neq 49 x y [.string s, .int .i64 a, .int .i64 b].toArray [.string s, .int .i64 a, .int .i64 b].toArray tn_guard
  have hr := run_neq_struct (P := Try.prog) w 49 [.string s, .int .i64 a, .int .i64 b].toArray [.string s, .int .i64 a, .int .i64 b].toArray
  have he2 := eq_tn 9998 s a b w
  rw [show (9998 + 1 + 1) = 10000 from rfl] at he2
  rw [he2, Result.andThen_ok] at hr
  simp [execOp, h1, h2, hg, hr]
set_option maxRecDepth 100000 in
set_option maxHeartbeats 1000000 in
theorem eqTurns_af (l : List Tn) : AF Try.prog 24 [Tn.row l, Tn.row l] (· = .lit (.bool true)) := by
  have q1 : decide (((l.length : Nat) : Int) = ((l.length : Nat) : Int)) = true := decide_eq_true rfl
  refine af_enter tok Try.func24 Try.ntmps24 Try.results24 rfl (by kernel_rfl) rfl rfl fun F hX => ?_
  repeat (first | refine gG ?_ | refine zN1 (fun hlen => ?_) | refine zN2 (fun hlen => ?_))
  refine x_loop [4, 5, 13, 14, 15, 16, 17, 18, 19, 20, 21, 22, 23, 24, 25] (fun k : Nat => [(13, .c (.lit (.int .i64 (k : Nat))))]) (fun _ => []) (fun k => k ≤ l.length) (fun k => l.length - k) 0 (Nat.zero_le _) ⟨rfl, trivial⟩ rfl ?_
  rintro k hk
  repeat (first | refine gG ?_ | refine zN1 (fun hlen => ?_) | refine zN2 (fun hlen => ?_))
  refine x_cond rfl (fun h => ?_) (fun h => ?_)
  · have hk' : k < l.length := by simpa using h
    obtain ⟨r, hr⟩ := nth hk'
    have hat := Tn.at hr
    clear h hr
    repeat (first | refine gG ?_ | refine zN1 (fun hlen => ?_) | refine zN2 (fun hlen => ?_))
    refine ac_draw [1, 1, 1, 1, 1, 1, 1, 1, 1] [0, 1, 2, 3, 4, 5, 6, 7, 8] (by kernel_rfl) (by kernel_rfl) ?_
    refine gW ?_
    apply w_q; (focus exact rfl); (focus exact rfl); focus (intro _; (refine zIx k hk' ?_); exact det_refl)
    apply w_q; (focus exact rfl); (focus exact rfl); focus (intro _; (refine zEl hat (Tn.ts_len _) ?_); exact det_refl)
    refine gW ?_
    apply w_q; (focus exact rfl); (focus exact rfl); focus (intro _; (refine zIx k hk' ?_); exact det_refl)
    apply w_q; (focus exact rfl); (focus exact rfl); focus (intro _; (refine zEl hat (Tn.ts_len _) ?_); exact det_refl)
    apply w_q; (focus exact rfl); (focus exact rfl); focus (intro _; (refine lo_neqTn r ?_ rfl rfl); exact det_refl)
    refine w_nil ?_
    repeat (first | refine gG ?_ | refine zN1 (fun hlen => ?_) | refine zN2 (fun hlen => ?_))
    exact ⟨k + 1, hk', by omega, x_wkd 0 ⟨rfl, trivial⟩ rfl (by repeat (first | exact ag_refl | refine ag_upd rfl ?_ | refine ag_at rfl rfl ?_))⟩
  · have hk' : k = l.length := by
      have : ¬ k < l.length := by simpa using h
      omega
    subst hk'
    clear h
    repeat (first | refine gG ?_ | refine zN1 (fun hlen => ?_) | refine zN2 (fun hlen => ?_))
    first | refine zR ?_ | refine zQ ?_
    rfl
theorem turns_a2 : turnsV [] [⟨⟨#[97]⟩, 2⟩] = ([⟨⟨#[97]⟩, 0, 2⟩], 0) := by
  have h1 : nameOk (⟨#[97]⟩ : ByteArray).data.toList = true := nameOk_yes (by simp) (by simp) (fun j h _ => by
    have : j = 0 := by simp at h; omega
    subst this; rfl)
  have h2 : lockF [] = 0 := rfl
  have h3 : lockF [⟨⟨#[97]⟩, 2⟩] = 0 := by
    unfold lockF
    simp only [lockAt, h1]
    rfl
  unfold turnsV
  rw [h2, h3]
  have h4 : namesU [] [⟨⟨#[97]⟩, 2⟩] = [⟨#[97]⟩] := by
    unfold namesU
    simp [va, pv]
  have h5 : sortB [(⟨#[97]⟩ : ByteArray)] = [⟨#[97]⟩] := by
    unfold sortB
    rw [List.map_cons, List.map_nil, List.mergeSort_singleton]
    rfl
  unfold turnsL
  rw [h4, h5]
  have h6 : va [] (⟨#[97]⟩ : ByteArray) = 0 := rfl
  have h7 : va [⟨⟨#[97]⟩, 2⟩] (⟨#[97]⟩ : ByteArray) = 2 := by simp [va, pv]
  show (turnsOf _ _ [⟨#[97]⟩], (0 : Int)) = _
  unfold turnsOf
  rw [List.map_cons, List.map_nil, List.filter_cons]
  unfold tnOf
  rw [h6, h7]
  rfl
set_option maxRecDepth 100000 in
set_option maxHeartbeats 4000000 in
theorem lockTurns_law (a b : List Pk) (ha : Pk.sizes a ≤ 1048576) (hb : Pk.sizes b ≤ 1048576) : AF Try.prog 5 [Pk.row a, Pk.row b] (· = .lit (.bool true)) := by
  have hsz : ∀ {l : List Pk}, Pk.sizes l ≤ 1048576 → ∀ p ∈ l, p.name.size ≤ 1048576 := fun {l} h p hp => by
    have := Pk.size_mem hp
    obtain ⟨nm, v⟩ := p
    simp only [Pk.size] at this
    simp only
    omega
  have h0 := turns_af [] [⟨⟨#[97]⟩, 2⟩] (fun p hp => by cases hp) (fun p hp => by rw [List.mem_singleton.1 hp]; decide)
  rw [turns_a2] at h0
  have h1 := turns_af a b (hsz ha) (hsz hb)
  have h2 := lockTurns_af a b (hsz ha) (hsz hb)
  have h3 := eqTurns_af (turnsV a b).1
  generalize turnsV a b = r at *
  obtain ⟨ro, re⟩ := r
  dsimp only at h0 h1 h2 h3
  have q1 : decide (re = re) = true := decide_eq_true rfl
  clear hsz
  refine af_enter tok Try.func5 Try.ntmps5 Try.results5 rfl (by kernel_rfl) rfl rfl fun F hX => ?_
  repeat (first | refine gG ?_ | refine zN1 (fun hlen => ?_) | refine zN2 (fun hlen => ?_))
  refine zCall (h0) ?_
  rintro _ rfl
  repeat (first | refine gG ?_ | refine zN1 (fun hlen => ?_) | refine zN2 (fun hlen => ?_))
  refine zCall (h1) ?_
  rintro _ rfl
  repeat (first | refine gG ?_ | refine zN1 (fun hlen => ?_) | refine zN2 (fun hlen => ?_))
  refine zCall (h2) ?_
  rintro _ rfl
  repeat (first | refine gG ?_ | refine zN1 (fun hlen => ?_) | refine zN2 (fun hlen => ?_))
  refine zCall (h3) ?_
  rintro _ rfl
  repeat (first | refine gG ?_ | refine zN1 (fun hlen => ?_) | refine zN2 (fun hlen => ?_))
  first | refine zR ?_ | refine zQ ?_
  first | rfl | (rw [q1]; rfl)
end Go.Proofs.Ytnkafjkcjpajgaa
namespace Go.Proofs.Ytnkafjkcjpajgaa
open Go.ChangeShapes Go.WideShapes Go.ChangeAt Go.RowKit Go.Deep
section
variable {H : Type} {enc : TypeId × Value → H} {P : Program} {w : World} {base : Nat} {spare : Nat → Bool} {held : Bool}
theorem bulk_one (d : DataW H) : 1 ≤ Rows.uptoBulk d := by
  cases d with
  | lit l => cases l <;> simp [Rows.uptoBulk]
  | _ => simp [Rows.uptoBulk]
end
end Go.Proofs.Ytnkafjkcjpajgaa
