/-
  Texts of this proof, part 11: Jlc2 Ab52 Jtf Jtg Open.
-/
import Derived.Test.YtgjfiedepfjdcaaQLayoutLays10
import Derived.Deep.Slices
import Derived.JoinedCond
import Derived.Laws.IdiomRangeMap
import Derived.Laws.Strings2
import Derived.OpenShut
import Derived.ProofKit
import Derived.Test.YtgjfiedepfjdcaaRows
import Derived.WideKeyEntry
namespace Go.Proofs.Ytgjfiedepfjdcaa
open Go.RowKit
set_option maxRecDepth 100000 in
set_option maxHeartbeats 8000000 in
theorem layFault_af (d : List Lp) : AF Try.prog 7 [Lp.row d] (· = .lit (.int .i64 (chkD d))) := by
  by_cases c8 : 8000 < d.length
  · have hres : chkD d = 2 := by unfold chkD; rw [if_pos c8]
    have d8 : decide (((d.length : Nat) : Int) > 8000) = true := decide_eq_true (by omega)
    refine af_enter tok Try.func7 Try.ntmps7 Try.results7 rfl (by kernel_rfl) rfl rfl fun F hX => ?_
    repeat (first | refine gG ?_ | refine zN1 (fun hlen => ?_) | refine zN2 (fun hlen => ?_) | refine zSub ?_ | refine zAl (fun _ => ?_))
    first | refine zR ?_ | refine zQ ?_
    rw [hres]
    rfl
  have hinv0 : chkD d = chk 0 (d.drop 0) := by unfold chkD; rw [if_neg c8]; rfl
  have d8 : decide (((d.length : Nat) : Int) > 8000) = false := decide_eq_false (by omega)
  refine af_enter tok Try.func7 Try.ntmps7 Try.results7 rfl (by kernel_rfl) rfl rfl fun F hX => ?_
  repeat (first | refine gG ?_ | refine zN1 (fun hlen => ?_) | refine zN2 (fun hlen => ?_) | refine zSub ?_ | refine zAl (fun _ => ?_))
  refine x_loop [2, 3, 5, 11, 12, 13, 14, 15, 16, 17, 18, 19, 20, 21, 22, 23, 24, 25, 26, 27, 28, 29, 30, 31, 32, 33, 34, 35, 36, 37, 38, 39, 40, 41, 42, 43, 44, 45, 46, 47, 48, 49, 50, 51, 52, 53, 54, 55, 56, 57, 58, 59, 60, 61, 62, 63, 64, 65, 66, 67, 68, 69, 70, 71, 72, 73, 74, 75, 76] (fun y : Nat × Int => [(11, .c (.lit (.int .i64 (y.1 : Nat)))), (3, .c (.lit (.int .i64 y.2)))]) (fun _ => []) (fun y => y.1 ≤ d.length ∧ 0 ≤ y.2 ∧ y.2 ≤ 200 ∧ chkD d = chk y.2 (d.drop y.1)) (fun y => d.length - y.1) (0, 0) ⟨Nat.zero_le _, by decide, by decide, hinv0⟩ ⟨rfl, rfl, trivial⟩ rfl ?_
  rintro ⟨i, k⟩ ⟨hi, hk0, hk2, hinv⟩
  dsimp only at hi hk0 hk2 hinv ⊢
  clear hinv0
  repeat (first | refine gG ?_ | refine zN1 (fun hlen => ?_) | refine zN2 (fun hlen => ?_) | refine zSub ?_ | refine zAl (fun _ => ?_))
  refine x_cond rfl (fun h => ?_) (fun h => ?_)
  · have hi' : i < d.length := by simpa using h
    obtain ⟨p, hp⟩ := nth hi'
    have hd := drop_cons hp
    clear h d8
    repeat (first | refine gG ?_ | refine zN1 (fun hlen => ?_) | refine zN2 (fun hlen => ?_) | refine zSub ?_ | refine zAl (fun _ => ?_))
    refine zIx (i) (hi') ?_
    repeat (first | refine gG ?_ | refine zN1 (fun hlen => ?_) | refine zN2 (fun hlen => ?_) | refine zSub ?_ | refine zAl (fun _ => ?_))
    refine zEl (Lp.at hp) (Lp.ts_len p) ?_
    obtain ⟨ka, nu, s⟩ := p
    have hcon := contains_af s
    repeat (first | refine gG ?_ | refine zN1 (fun hlen => ?_) | refine zN2 (fun hlen => ?_) | refine zSub ?_ | refine zAl (fun _ => ?_))
    by_cases ck1 : ka < 1
    · have k1 : decide (ka < 1) = true := decide_eq_true ck1
      have k1n : (!decide (ka < 1)) = false := by rw [k1]; rfl
      have hres : chkD d = 3 := by
        rw [hinv, hd]
        exact chk_bad (by simp [badP, ck1])
      clear hinv hd hp
      try clear hb ha hdl
      try clear hnl
      repeat (first | refine gG ?_ | refine zN1 (fun hlen => ?_) | refine zN2 (fun hlen => ?_) | refine zSub ?_ | refine zAl (fun _ => ?_))
      first | refine zR ?_ | refine zQ ?_
      rw [hres]
      rfl
    · have k1 : decide (ka < 1) = false := decide_eq_false ck1
      have k1n : (!decide (ka < 1)) = true := by rw [k1]; rfl
      by_cases ck6 : ka > 6
      · have k6 : decide (ka > 6) = true := decide_eq_true ck6
        have k6n : (!decide (ka > 6)) = false := by rw [k6]; rfl
        have hres : chkD d = 3 := by
          rw [hinv, hd]
          exact chk_bad (by simp [badP, show 6 < ka from ck6])
        clear hinv hd hp
        try clear hb ha hdl
        try clear hnl
        repeat (first | refine gG ?_ | refine zN1 (fun hlen => ?_) | refine zN2 (fun hlen => ?_) | refine zSub ?_ | refine zAl (fun _ => ?_))
        first | refine zR ?_ | refine zQ ?_
        rw [hres]
        rfl
      · have k6 : decide (ka > 6) = false := decide_eq_false ck6
        have k6n : (!decide (ka > 6)) = true := by rw [k6]; rfl
        by_cases ce1 : ka = 1
        · have e1 : decide (ka = 1) = true := decide_eq_true ce1
          have e1n : (!decide (ka = 1)) = false := by rw [e1]; rfl
          have ce5 : ¬ ka = 5 := by omega
          have e5 : decide (ka = 5) = false := decide_eq_false ce5
          have e5n : (!decide (ka = 5)) = true := by rw [e5]; rfl
          have ce6 : ¬ ka = 6 := by omega
          have e6 : decide (ka = 6) = false := decide_eq_false ce6
          by_cases cen : nu = 0
          · have en : decide (nu = 0) = true := decide_eq_true cen
            have enn : (!decide (nu = 0)) = false := by rw [en]; rfl
            by_cases ces : s = ⟨#[]⟩
            · have es : decide (s = ⟨#[]⟩) = true := decide_eq_true ces
              have esn : (!decide (s = ⟨#[]⟩)) = false := by rw [es]; rfl
              by_cases cz : ((s.size : Nat) : Int) > 4000
              · have z : decide (((s.size : Nat) : Int) > 4000) = true := decide_eq_true cz
                have zn : (!decide (((s.size : Nat) : Int) > 4000)) = false := by rw [z]; rfl
                have hres : chkD d = 3 := by
                  rw [hinv, hd]
                  exact chk_bad (by simp only [badP, Bool.or_eq_true, decide_eq_true_eq]; omega)
                clear hinv hd hp
                try clear hb ha hdl
                try clear hnl
                repeat (first | refine gG ?_ | refine zN1 (fun hlen => ?_) | refine zN2 (fun hlen => ?_) | refine zSub ?_ | refine zAl (fun _ => ?_))
                first | refine zR ?_ | refine zQ ?_
                rw [hres]
                rfl
              · have z : decide (((s.size : Nat) : Int) > 4000) = false := decide_eq_false cz
                have zn : (!decide (((s.size : Nat) : Int) > 4000)) = true := by rw [z]; rfl
                cases hnl : nlB s with
                | true =>
                  rw [hnl] at hcon
                  have hres : chkD d = 3 := by
                    rw [hinv, hd]
                    exact chk_bad (by simp [badP, hnl])
                  clear hinv hd hp hnl
                  repeat (first | refine gG ?_ | refine zN1 (fun hlen => ?_) | refine zN2 (fun hlen => ?_) | refine zSub ?_ | refine zAl (fun _ => ?_))
                  refine zCall (hcon) ?_
                  rintro _ rfl
                  repeat (first | refine gG ?_ | refine zN1 (fun hlen => ?_) | refine zN2 (fun hlen => ?_) | refine zSub ?_ | refine zAl (fun _ => ?_))
                  first | refine zR ?_ | refine zQ ?_
                  rw [hres]
                  rfl
                | false =>
                  rw [hnl] at hcon
                  replace hnl := fun _ : Unit => hnl
                  repeat (first | refine gG ?_ | refine zN1 (fun hlen => ?_) | refine zN2 (fun hlen => ?_) | refine zSub ?_ | refine zAl (fun _ => ?_))
                  refine zCall (hcon) ?_
                  rintro _ rfl
                  clear hcon
                  by_cases cn0 : nu < 0
                  · have n0 : decide (nu < 0) = true := decide_eq_true cn0
                    have n0n : (!decide (nu < 0)) = false := by rw [n0]; rfl
                    have hres : chkD d = 1 := by
                      rw [hinv, hd]
                      exact chk_arg (badP_no ck1 ck6 (by first | exact .inl ce1 | exact .inr ces) (by first | exact .inl ce5 | exact .inr cen) cz (hnl ())) (by simp [argP, cn0])
                    clear hinv hd hp
                    try clear hb ha hdl
                    try clear hnl
                    repeat (first | refine gG ?_ | refine zN1 (fun hlen => ?_) | refine zN2 (fun hlen => ?_) | refine zSub ?_ | refine zAl (fun _ => ?_))
                    first | refine zR ?_ | refine zQ ?_
                    rw [hres]
                    rfl
                  · have n0 : decide (nu < 0) = false := decide_eq_false cn0
                    have n0n : (!decide (nu < 0)) = true := by rw [n0]; rfl
                    by_cases cn2 : nu > 200
                    · have n2 : decide (nu > 200) = true := decide_eq_true cn2
                      have n2n : (!decide (nu > 200)) = false := by rw [n2]; rfl
                      have hres : chkD d = 1 := by
                        rw [hinv, hd]
                        exact chk_arg (badP_no ck1 ck6 (by first | exact .inl ce1 | exact .inr ces) (by first | exact .inl ce5 | exact .inr cen) cz (hnl ())) (by simp [argP, cn2])
                      clear hinv hd hp
                      try clear hb ha hdl
                      try clear hnl
                      repeat (first | refine gG ?_ | refine zN1 (fun hlen => ?_) | refine zN2 (fun hlen => ?_) | refine zSub ?_ | refine zAl (fun _ => ?_))
                      first | refine zR ?_ | refine zQ ?_
                      rw [hres]
                      rfl
                    · have n2 : decide (nu > 200) = false := decide_eq_false cn2
                      have n2n : (!decide (nu > 200)) = true := by rw [n2]; rfl
                      have hb : badP ⟨ka, nu, s⟩ = false := badP_no ck1 ck6 (by first | exact .inl ce1 | exact .inr ces) (by first | exact .inl ce5 | exact .inr cen) cz (hnl ())
                      have ha : argP ⟨ka, nu, s⟩ = false := by simp only [argP, n0, Bool.false_or, decide_eq_false_iff_not]; omega
                      have hdl : dl ⟨ka, nu, s⟩ = 0 := by simp [dl, ce5, ce6]
                      have r1 : decide (k < 0) = false := decide_eq_false (by omega)
                      have r2 : decide (k > 200) = false := decide_eq_false (by omega)
                      have hnext : chkD d = chk (k) (d.drop (i + 1)) := by
                        rw [hinv, hd, chk_next hb ha (by rw [hdl]; omega), hdl]
                        rw [Int.add_zero]
                      clear hinv hd hp hb ha hdl hnl
                      try clear k1
                      try clear k1n
                      try clear k6
                      try clear k6n
                      try clear e1
                      try clear e1n
                      try clear es
                      try clear esn
                      try clear en
                      try clear enn
                      try clear e5n
                      try clear e6n
                      try clear zn
                      try clear n0n
                      try clear n2n
                      try clear ck1
                      try clear ck6
                      try clear ce1
                      try clear ces
                      try clear ce5
                      try clear cen
                      try clear ce6
                      try clear cz
                      try clear cn0
                      try clear cn2
                      try clear hop
                      repeat (first | refine gG ?_ | refine zN1 (fun hlen => ?_) | refine zN2 (fun hlen => ?_) | refine zSub ?_ | refine zAl (fun _ => ?_))
                      exact ⟨(i + 1, k), ⟨hi', by dsimp only; omega, by dsimp only; omega, hnext⟩, by dsimp only; omega, x_wkd 0 ⟨rfl, rfl, trivial⟩ rfl (by repeat (first | exact ag_refl | refine ag_upd rfl ?_ | refine ag_at rfl rfl ?_))⟩
            · have es : decide (s = ⟨#[]⟩) = false := decide_eq_false ces
              have esn : (!decide (s = ⟨#[]⟩)) = true := by rw [es]; rfl
              by_cases cz : ((s.size : Nat) : Int) > 4000
              · have z : decide (((s.size : Nat) : Int) > 4000) = true := decide_eq_true cz
                have zn : (!decide (((s.size : Nat) : Int) > 4000)) = false := by rw [z]; rfl
                have hres : chkD d = 3 := by
                  rw [hinv, hd]
                  exact chk_bad (by simp only [badP, Bool.or_eq_true, decide_eq_true_eq]; omega)
                clear hinv hd hp
                try clear hb ha hdl
                try clear hnl
                repeat (first | refine gG ?_ | refine zN1 (fun hlen => ?_) | refine zN2 (fun hlen => ?_) | refine zSub ?_ | refine zAl (fun _ => ?_))
                first | refine zR ?_ | refine zQ ?_
                rw [hres]
                rfl
              · have z : decide (((s.size : Nat) : Int) > 4000) = false := decide_eq_false cz
                have zn : (!decide (((s.size : Nat) : Int) > 4000)) = true := by rw [z]; rfl
                cases hnl : nlB s with
                | true =>
                  rw [hnl] at hcon
                  have hres : chkD d = 3 := by
                    rw [hinv, hd]
                    exact chk_bad (by simp [badP, hnl])
                  clear hinv hd hp hnl
                  repeat (first | refine gG ?_ | refine zN1 (fun hlen => ?_) | refine zN2 (fun hlen => ?_) | refine zSub ?_ | refine zAl (fun _ => ?_))
                  refine zCall (hcon) ?_
                  rintro _ rfl
                  repeat (first | refine gG ?_ | refine zN1 (fun hlen => ?_) | refine zN2 (fun hlen => ?_) | refine zSub ?_ | refine zAl (fun _ => ?_))
                  first | refine zR ?_ | refine zQ ?_
                  rw [hres]
                  rfl
                | false =>
                  rw [hnl] at hcon
                  replace hnl := fun _ : Unit => hnl
                  repeat (first | refine gG ?_ | refine zN1 (fun hlen => ?_) | refine zN2 (fun hlen => ?_) | refine zSub ?_ | refine zAl (fun _ => ?_))
                  refine zCall (hcon) ?_
                  rintro _ rfl
                  clear hcon
                  by_cases cn0 : nu < 0
                  · have n0 : decide (nu < 0) = true := decide_eq_true cn0
                    have n0n : (!decide (nu < 0)) = false := by rw [n0]; rfl
                    have hres : chkD d = 1 := by
                      rw [hinv, hd]
                      exact chk_arg (badP_no ck1 ck6 (by first | exact .inl ce1 | exact .inr ces) (by first | exact .inl ce5 | exact .inr cen) cz (hnl ())) (by simp [argP, cn0])
                    clear hinv hd hp
                    try clear hb ha hdl
                    try clear hnl
                    repeat (first | refine gG ?_ | refine zN1 (fun hlen => ?_) | refine zN2 (fun hlen => ?_) | refine zSub ?_ | refine zAl (fun _ => ?_))
                    first | refine zR ?_ | refine zQ ?_
                    rw [hres]
                    rfl
                  · have n0 : decide (nu < 0) = false := decide_eq_false cn0
                    have n0n : (!decide (nu < 0)) = true := by rw [n0]; rfl
                    by_cases cn2 : nu > 200
                    · have n2 : decide (nu > 200) = true := decide_eq_true cn2
                      have n2n : (!decide (nu > 200)) = false := by rw [n2]; rfl
                      have hres : chkD d = 1 := by
                        rw [hinv, hd]
                        exact chk_arg (badP_no ck1 ck6 (by first | exact .inl ce1 | exact .inr ces) (by first | exact .inl ce5 | exact .inr cen) cz (hnl ())) (by simp [argP, cn2])
                      clear hinv hd hp
                      try clear hb ha hdl
                      try clear hnl
                      repeat (first | refine gG ?_ | refine zN1 (fun hlen => ?_) | refine zN2 (fun hlen => ?_) | refine zSub ?_ | refine zAl (fun _ => ?_))
                      first | refine zR ?_ | refine zQ ?_
                      rw [hres]
                      rfl
                    · have n2 : decide (nu > 200) = false := decide_eq_false cn2
                      have n2n : (!decide (nu > 200)) = true := by rw [n2]; rfl
                      have hb : badP ⟨ka, nu, s⟩ = false := badP_no ck1 ck6 (by first | exact .inl ce1 | exact .inr ces) (by first | exact .inl ce5 | exact .inr cen) cz (hnl ())
                      have ha : argP ⟨ka, nu, s⟩ = false := by simp only [argP, n0, Bool.false_or, decide_eq_false_iff_not]; omega
                      have hdl : dl ⟨ka, nu, s⟩ = 0 := by simp [dl, ce5, ce6]
                      have r1 : decide (k < 0) = false := decide_eq_false (by omega)
                      have r2 : decide (k > 200) = false := decide_eq_false (by omega)
                      have hnext : chkD d = chk (k) (d.drop (i + 1)) := by
                        rw [hinv, hd, chk_next hb ha (by rw [hdl]; omega), hdl]
                        rw [Int.add_zero]
                      clear hinv hd hp hb ha hdl hnl
                      try clear k1
                      try clear k1n
                      try clear k6
                      try clear k6n
                      try clear e1
                      try clear e1n
                      try clear es
                      try clear esn
                      try clear en
                      try clear enn
                      try clear e5n
                      try clear e6n
                      try clear zn
                      try clear n0n
                      try clear n2n
                      try clear ck1
                      try clear ck6
                      try clear ce1
                      try clear ces
                      try clear ce5
                      try clear cen
                      try clear ce6
                      try clear cz
                      try clear cn0
                      try clear cn2
                      try clear hop
                      repeat (first | refine gG ?_ | refine zN1 (fun hlen => ?_) | refine zN2 (fun hlen => ?_) | refine zSub ?_ | refine zAl (fun _ => ?_))
                      exact ⟨(i + 1, k), ⟨hi', by dsimp only; omega, by dsimp only; omega, hnext⟩, by dsimp only; omega, x_wkd 0 ⟨rfl, rfl, trivial⟩ rfl (by repeat (first | exact ag_refl | refine ag_upd rfl ?_ | refine ag_at rfl rfl ?_))⟩
          · have en : decide (nu = 0) = false := decide_eq_false cen
            have enn : (!decide (nu = 0)) = true := by rw [en]; rfl
            by_cases ces : s = ⟨#[]⟩
            · have es : decide (s = ⟨#[]⟩) = true := decide_eq_true ces
              have esn : (!decide (s = ⟨#[]⟩)) = false := by rw [es]; rfl
              have hres : chkD d = 3 := by
                rw [hinv, hd]
                exact chk_bad (by simp [badP, ce5, cen])
              clear hinv hd hp
              try clear hb ha hdl
              try clear hnl
              repeat (first | refine gG ?_ | refine zN1 (fun hlen => ?_) | refine zN2 (fun hlen => ?_) | refine zSub ?_ | refine zAl (fun _ => ?_))
              first | refine zR ?_ | refine zQ ?_
              rw [hres]
              rfl
            · have es : decide (s = ⟨#[]⟩) = false := decide_eq_false ces
              have esn : (!decide (s = ⟨#[]⟩)) = true := by rw [es]; rfl
              have hres : chkD d = 3 := by
                rw [hinv, hd]
                exact chk_bad (by simp [badP, ce5, cen])
              clear hinv hd hp
              try clear hb ha hdl
              try clear hnl
              repeat (first | refine gG ?_ | refine zN1 (fun hlen => ?_) | refine zN2 (fun hlen => ?_) | refine zSub ?_ | refine zAl (fun _ => ?_))
              first | refine zR ?_ | refine zQ ?_
              rw [hres]
              rfl
        · have e1 : decide (ka = 1) = false := decide_eq_false ce1
          have e1n : (!decide (ka = 1)) = true := by rw [e1]; rfl
          by_cases ces : s = ⟨#[]⟩
          · have es : decide (s = ⟨#[]⟩) = true := decide_eq_true ces
            have esn : (!decide (s = ⟨#[]⟩)) = false := by rw [es]; rfl
            by_cases ce5 : ka = 5
            · have e5 : decide (ka = 5) = true := decide_eq_true ce5
              have e5n : (!decide (ka = 5)) = false := by rw [e5]; rfl
              have ce6 : ¬ ka = 6 := by omega
              have e6 : decide (ka = 6) = false := decide_eq_false ce6
              by_cases cen : nu = 0
              · have en : decide (nu = 0) = true := decide_eq_true cen
                have enn : (!decide (nu = 0)) = false := by rw [en]; rfl
                by_cases cz : ((s.size : Nat) : Int) > 4000
                · have z : decide (((s.size : Nat) : Int) > 4000) = true := decide_eq_true cz
                  have zn : (!decide (((s.size : Nat) : Int) > 4000)) = false := by rw [z]; rfl
                  have hres : chkD d = 3 := by
                    rw [hinv, hd]
                    exact chk_bad (by simp only [badP, Bool.or_eq_true, decide_eq_true_eq]; omega)
                  clear hinv hd hp
                  try clear hb ha hdl
                  try clear hnl
                  repeat (first | refine gG ?_ | refine zN1 (fun hlen => ?_) | refine zN2 (fun hlen => ?_) | refine zSub ?_ | refine zAl (fun _ => ?_))
                  first | refine zR ?_ | refine zQ ?_
                  rw [hres]
                  rfl
                · have z : decide (((s.size : Nat) : Int) > 4000) = false := decide_eq_false cz
                  have zn : (!decide (((s.size : Nat) : Int) > 4000)) = true := by rw [z]; rfl
                  cases hnl : nlB s with
                  | true =>
                    rw [hnl] at hcon
                    have hres : chkD d = 3 := by
                      rw [hinv, hd]
                      exact chk_bad (by simp [badP, hnl])
                    clear hinv hd hp hnl
                    repeat (first | refine gG ?_ | refine zN1 (fun hlen => ?_) | refine zN2 (fun hlen => ?_) | refine zSub ?_ | refine zAl (fun _ => ?_))
                    refine zCall (hcon) ?_
                    rintro _ rfl
                    repeat (first | refine gG ?_ | refine zN1 (fun hlen => ?_) | refine zN2 (fun hlen => ?_) | refine zSub ?_ | refine zAl (fun _ => ?_))
                    first | refine zR ?_ | refine zQ ?_
                    rw [hres]
                    rfl
                  | false =>
                    rw [hnl] at hcon
                    replace hnl := fun _ : Unit => hnl
                    repeat (first | refine gG ?_ | refine zN1 (fun hlen => ?_) | refine zN2 (fun hlen => ?_) | refine zSub ?_ | refine zAl (fun _ => ?_))
                    refine zCall (hcon) ?_
                    rintro _ rfl
                    clear hcon
                    by_cases cn0 : nu < 0
                    · have n0 : decide (nu < 0) = true := decide_eq_true cn0
                      have n0n : (!decide (nu < 0)) = false := by rw [n0]; rfl
                      have hres : chkD d = 1 := by
                        rw [hinv, hd]
                        exact chk_arg (badP_no ck1 ck6 (by first | exact .inl ce1 | exact .inr ces) (by first | exact .inl ce5 | exact .inr cen) cz (hnl ())) (by simp [argP, cn0])
                      clear hinv hd hp
                      try clear hb ha hdl
                      try clear hnl
                      repeat (first | refine gG ?_ | refine zN1 (fun hlen => ?_) | refine zN2 (fun hlen => ?_) | refine zSub ?_ | refine zAl (fun _ => ?_))
                      first | refine zR ?_ | refine zQ ?_
                      rw [hres]
                      rfl
                    · have n0 : decide (nu < 0) = false := decide_eq_false cn0
                      have n0n : (!decide (nu < 0)) = true := by rw [n0]; rfl
                      by_cases cn2 : nu > 200
                      · have n2 : decide (nu > 200) = true := decide_eq_true cn2
                        have n2n : (!decide (nu > 200)) = false := by rw [n2]; rfl
                        have hres : chkD d = 1 := by
                          rw [hinv, hd]
                          exact chk_arg (badP_no ck1 ck6 (by first | exact .inl ce1 | exact .inr ces) (by first | exact .inl ce5 | exact .inr cen) cz (hnl ())) (by simp [argP, cn2])
                        clear hinv hd hp
                        try clear hb ha hdl
                        try clear hnl
                        repeat (first | refine gG ?_ | refine zN1 (fun hlen => ?_) | refine zN2 (fun hlen => ?_) | refine zSub ?_ | refine zAl (fun _ => ?_))
                        first | refine zR ?_ | refine zQ ?_
                        rw [hres]
                        rfl
                      · have n2 : decide (nu > 200) = false := decide_eq_false cn2
                        have n2n : (!decide (nu > 200)) = true := by rw [n2]; rfl
                        have hb : badP ⟨ka, nu, s⟩ = false := badP_no ck1 ck6 (by first | exact .inl ce1 | exact .inr ces) (by first | exact .inl ce5 | exact .inr cen) cz (hnl ())
                        have ha : argP ⟨ka, nu, s⟩ = false := by simp only [argP, n0, Bool.false_or, decide_eq_false_iff_not]; omega
                        have hdl : dl ⟨ka, nu, s⟩ = 1 := by simp [dl, ce5, ce6]
                        have r1 : decide (k + 1 < 0) = false := decide_eq_false (by omega)
                        by_cases cr : k + 1 > 200
                        · have r2 : decide (k + 1 > 200) = true := decide_eq_true cr
                          have hres : chkD d = 3 := by
                            rw [hinv, hd]
                            exact chk_far hb ha (by rw [hdl]; omega)
                          clear hinv hd hp hb ha hdl hnl
                          try clear k1
                          try clear k1n
                          try clear k6
                          try clear k6n
                          try clear e1
                          try clear e1n
                          try clear es
                          try clear esn
                          try clear en
                          try clear enn
                          try clear e5n
                          try clear e6n
                          try clear zn
                          try clear n0n
                          try clear n2n
                          try clear ck1
                          try clear ck6
                          try clear ce1
                          try clear ces
                          try clear ce5
                          try clear cen
                          try clear ce6
                          try clear cz
                          try clear cn0
                          try clear cn2
                          try clear hop
                          repeat (first | refine gG ?_ | refine zN1 (fun hlen => ?_) | refine zN2 (fun hlen => ?_) | refine zSub ?_ | refine zAl (fun _ => ?_))
                          refine lo_add rfl rfl (r := k + 1) (by show IntKind.wrap .i64 (k + 1) = k + 1; rw [IntWalk.i64_in _ (by omega)]) ?_
                          repeat (first | refine gG ?_ | refine zN1 (fun hlen => ?_) | refine zN2 (fun hlen => ?_) | refine zSub ?_ | refine zAl (fun _ => ?_))
                          first | refine zR ?_ | refine zQ ?_
                          rw [hres]
                          rfl
                        · have r2 : decide (k + 1 > 200) = false := decide_eq_false cr
                          have hnext : chkD d = chk (k + 1) (d.drop (i + 1)) := by
                            rw [hinv, hd, chk_next hb ha (by rw [hdl]; omega), hdl]
                          clear hinv hd hp hb ha hdl hnl
                          try clear k1
                          try clear k1n
                          try clear k6
                          try clear k6n
                          try clear e1
                          try clear e1n
                          try clear es
                          try clear esn
                          try clear en
                          try clear enn
                          try clear e5n
                          try clear e6n
                          try clear zn
                          try clear n0n
                          try clear n2n
                          try clear ck1
                          try clear ck6
                          try clear ce1
                          try clear ces
                          try clear ce5
                          try clear cen
                          try clear ce6
                          try clear cz
                          try clear cn0
                          try clear cn2
                          try clear hop
                          repeat (first | refine gG ?_ | refine zN1 (fun hlen => ?_) | refine zN2 (fun hlen => ?_) | refine zSub ?_ | refine zAl (fun _ => ?_))
                          refine lo_add rfl rfl (r := k + 1) (by show IntKind.wrap .i64 (k + 1) = k + 1; rw [IntWalk.i64_in _ (by omega)]) ?_
                          repeat (first | refine gG ?_ | refine zN1 (fun hlen => ?_) | refine zN2 (fun hlen => ?_) | refine zSub ?_ | refine zAl (fun _ => ?_))
                          exact ⟨(i + 1, k + 1), ⟨hi', by dsimp only; omega, by dsimp only; omega, hnext⟩, by dsimp only; omega, x_wkd 0 ⟨rfl, rfl, trivial⟩ rfl (by repeat (first | exact ag_refl | refine ag_upd rfl ?_ | refine ag_at rfl rfl ?_))⟩
              · have en : decide (nu = 0) = false := decide_eq_false cen
                have enn : (!decide (nu = 0)) = true := by rw [en]; rfl
                by_cases cz : ((s.size : Nat) : Int) > 4000
                · have z : decide (((s.size : Nat) : Int) > 4000) = true := decide_eq_true cz
                  have zn : (!decide (((s.size : Nat) : Int) > 4000)) = false := by rw [z]; rfl
                  have hres : chkD d = 3 := by
                    rw [hinv, hd]
                    exact chk_bad (by simp only [badP, Bool.or_eq_true, decide_eq_true_eq]; omega)
                  clear hinv hd hp
                  try clear hb ha hdl
                  try clear hnl
                  repeat (first | refine gG ?_ | refine zN1 (fun hlen => ?_) | refine zN2 (fun hlen => ?_) | refine zSub ?_ | refine zAl (fun _ => ?_))
                  first | refine zR ?_ | refine zQ ?_
                  rw [hres]
                  rfl
                · have z : decide (((s.size : Nat) : Int) > 4000) = false := decide_eq_false cz
                  have zn : (!decide (((s.size : Nat) : Int) > 4000)) = true := by rw [z]; rfl
                  cases hnl : nlB s with
                  | true =>
                    rw [hnl] at hcon
                    have hres : chkD d = 3 := by
                      rw [hinv, hd]
                      exact chk_bad (by simp [badP, hnl])
                    clear hinv hd hp hnl
                    repeat (first | refine gG ?_ | refine zN1 (fun hlen => ?_) | refine zN2 (fun hlen => ?_) | refine zSub ?_ | refine zAl (fun _ => ?_))
                    refine zCall (hcon) ?_
                    rintro _ rfl
                    repeat (first | refine gG ?_ | refine zN1 (fun hlen => ?_) | refine zN2 (fun hlen => ?_) | refine zSub ?_ | refine zAl (fun _ => ?_))
                    first | refine zR ?_ | refine zQ ?_
                    rw [hres]
                    rfl
                  | false =>
                    rw [hnl] at hcon
                    replace hnl := fun _ : Unit => hnl
                    repeat (first | refine gG ?_ | refine zN1 (fun hlen => ?_) | refine zN2 (fun hlen => ?_) | refine zSub ?_ | refine zAl (fun _ => ?_))
                    refine zCall (hcon) ?_
                    rintro _ rfl
                    clear hcon
                    by_cases cn0 : nu < 0
                    · have n0 : decide (nu < 0) = true := decide_eq_true cn0
                      have n0n : (!decide (nu < 0)) = false := by rw [n0]; rfl
                      have hres : chkD d = 1 := by
                        rw [hinv, hd]
                        exact chk_arg (badP_no ck1 ck6 (by first | exact .inl ce1 | exact .inr ces) (by first | exact .inl ce5 | exact .inr cen) cz (hnl ())) (by simp [argP, cn0])
                      clear hinv hd hp
                      try clear hb ha hdl
                      try clear hnl
                      repeat (first | refine gG ?_ | refine zN1 (fun hlen => ?_) | refine zN2 (fun hlen => ?_) | refine zSub ?_ | refine zAl (fun _ => ?_))
                      first | refine zR ?_ | refine zQ ?_
                      rw [hres]
                      rfl
                    · have n0 : decide (nu < 0) = false := decide_eq_false cn0
                      have n0n : (!decide (nu < 0)) = true := by rw [n0]; rfl
                      by_cases cn2 : nu > 200
                      · have n2 : decide (nu > 200) = true := decide_eq_true cn2
                        have n2n : (!decide (nu > 200)) = false := by rw [n2]; rfl
                        have hres : chkD d = 1 := by
                          rw [hinv, hd]
                          exact chk_arg (badP_no ck1 ck6 (by first | exact .inl ce1 | exact .inr ces) (by first | exact .inl ce5 | exact .inr cen) cz (hnl ())) (by simp [argP, cn2])
                        clear hinv hd hp
                        try clear hb ha hdl
                        try clear hnl
                        repeat (first | refine gG ?_ | refine zN1 (fun hlen => ?_) | refine zN2 (fun hlen => ?_) | refine zSub ?_ | refine zAl (fun _ => ?_))
                        first | refine zR ?_ | refine zQ ?_
                        rw [hres]
                        rfl
                      · have n2 : decide (nu > 200) = false := decide_eq_false cn2
                        have n2n : (!decide (nu > 200)) = true := by rw [n2]; rfl
                        have hb : badP ⟨ka, nu, s⟩ = false := badP_no ck1 ck6 (by first | exact .inl ce1 | exact .inr ces) (by first | exact .inl ce5 | exact .inr cen) cz (hnl ())
                        have ha : argP ⟨ka, nu, s⟩ = false := by simp only [argP, n0, Bool.false_or, decide_eq_false_iff_not]; omega
                        have hdl : dl ⟨ka, nu, s⟩ = 1 := by simp [dl, ce5, ce6]
                        have r1 : decide (k + 1 < 0) = false := decide_eq_false (by omega)
                        by_cases cr : k + 1 > 200
                        · have r2 : decide (k + 1 > 200) = true := decide_eq_true cr
                          have hres : chkD d = 3 := by
                            rw [hinv, hd]
                            exact chk_far hb ha (by rw [hdl]; omega)
                          clear hinv hd hp hb ha hdl hnl
                          try clear k1
                          try clear k1n
                          try clear k6
                          try clear k6n
                          try clear e1
                          try clear e1n
                          try clear es
                          try clear esn
                          try clear en
                          try clear enn
                          try clear e5n
                          try clear e6n
                          try clear zn
                          try clear n0n
                          try clear n2n
                          try clear ck1
                          try clear ck6
                          try clear ce1
                          try clear ces
                          try clear ce5
                          try clear cen
                          try clear ce6
                          try clear cz
                          try clear cn0
                          try clear cn2
                          try clear hop
                          repeat (first | refine gG ?_ | refine zN1 (fun hlen => ?_) | refine zN2 (fun hlen => ?_) | refine zSub ?_ | refine zAl (fun _ => ?_))
                          refine lo_add rfl rfl (r := k + 1) (by show IntKind.wrap .i64 (k + 1) = k + 1; rw [IntWalk.i64_in _ (by omega)]) ?_
                          repeat (first | refine gG ?_ | refine zN1 (fun hlen => ?_) | refine zN2 (fun hlen => ?_) | refine zSub ?_ | refine zAl (fun _ => ?_))
                          first | refine zR ?_ | refine zQ ?_
                          rw [hres]
                          rfl
                        · have r2 : decide (k + 1 > 200) = false := decide_eq_false cr
                          have hnext : chkD d = chk (k + 1) (d.drop (i + 1)) := by
                            rw [hinv, hd, chk_next hb ha (by rw [hdl]; omega), hdl]
                          clear hinv hd hp hb ha hdl hnl
                          try clear k1
                          try clear k1n
                          try clear k6
                          try clear k6n
                          try clear e1
                          try clear e1n
                          try clear es
                          try clear esn
                          try clear en
                          try clear enn
                          try clear e5n
                          try clear e6n
                          try clear zn
                          try clear n0n
                          try clear n2n
                          try clear ck1
                          try clear ck6
                          try clear ce1
                          try clear ces
                          try clear ce5
                          try clear cen
                          try clear ce6
                          try clear cz
                          try clear cn0
                          try clear cn2
                          try clear hop
                          repeat (first | refine gG ?_ | refine zN1 (fun hlen => ?_) | refine zN2 (fun hlen => ?_) | refine zSub ?_ | refine zAl (fun _ => ?_))
                          refine lo_add rfl rfl (r := k + 1) (by show IntKind.wrap .i64 (k + 1) = k + 1; rw [IntWalk.i64_in _ (by omega)]) ?_
                          repeat (first | refine gG ?_ | refine zN1 (fun hlen => ?_) | refine zN2 (fun hlen => ?_) | refine zSub ?_ | refine zAl (fun _ => ?_))
                          exact ⟨(i + 1, k + 1), ⟨hi', by dsimp only; omega, by dsimp only; omega, hnext⟩, by dsimp only; omega, x_wkd 0 ⟨rfl, rfl, trivial⟩ rfl (by repeat (first | exact ag_refl | refine ag_upd rfl ?_ | refine ag_at rfl rfl ?_))⟩
            · have e5 : decide (ka = 5) = false := decide_eq_false ce5
              have e5n : (!decide (ka = 5)) = true := by rw [e5]; rfl
              by_cases cen : nu = 0
              · have en : decide (nu = 0) = true := decide_eq_true cen
                have enn : (!decide (nu = 0)) = false := by rw [en]; rfl
                by_cases ce6 : ka = 6
                · have e6 : decide (ka = 6) = true := decide_eq_true ce6
                  have e6n : (!decide (ka = 6)) = false := by rw [e6]; rfl
                  by_cases cz : ((s.size : Nat) : Int) > 4000
                  · have z : decide (((s.size : Nat) : Int) > 4000) = true := decide_eq_true cz
                    have zn : (!decide (((s.size : Nat) : Int) > 4000)) = false := by rw [z]; rfl
                    have hres : chkD d = 3 := by
                      rw [hinv, hd]
                      exact chk_bad (by simp only [badP, Bool.or_eq_true, decide_eq_true_eq]; omega)
                    clear hinv hd hp
                    try clear hb ha hdl
                    try clear hnl
                    repeat (first | refine gG ?_ | refine zN1 (fun hlen => ?_) | refine zN2 (fun hlen => ?_) | refine zSub ?_ | refine zAl (fun _ => ?_))
                    first | refine zR ?_ | refine zQ ?_
                    rw [hres]
                    rfl
                  · have z : decide (((s.size : Nat) : Int) > 4000) = false := decide_eq_false cz
                    have zn : (!decide (((s.size : Nat) : Int) > 4000)) = true := by rw [z]; rfl
                    cases hnl : nlB s with
                    | true =>
                      rw [hnl] at hcon
                      have hres : chkD d = 3 := by
                        rw [hinv, hd]
                        exact chk_bad (by simp [badP, hnl])
                      clear hinv hd hp hnl
                      repeat (first | refine gG ?_ | refine zN1 (fun hlen => ?_) | refine zN2 (fun hlen => ?_) | refine zSub ?_ | refine zAl (fun _ => ?_))
                      refine zCall (hcon) ?_
                      rintro _ rfl
                      repeat (first | refine gG ?_ | refine zN1 (fun hlen => ?_) | refine zN2 (fun hlen => ?_) | refine zSub ?_ | refine zAl (fun _ => ?_))
                      first | refine zR ?_ | refine zQ ?_
                      rw [hres]
                      rfl
                    | false =>
                      rw [hnl] at hcon
                      replace hnl := fun _ : Unit => hnl
                      repeat (first | refine gG ?_ | refine zN1 (fun hlen => ?_) | refine zN2 (fun hlen => ?_) | refine zSub ?_ | refine zAl (fun _ => ?_))
                      refine zCall (hcon) ?_
                      rintro _ rfl
                      clear hcon
                      by_cases cn0 : nu < 0
                      · have n0 : decide (nu < 0) = true := decide_eq_true cn0
                        have n0n : (!decide (nu < 0)) = false := by rw [n0]; rfl
                        have hres : chkD d = 1 := by
                          rw [hinv, hd]
                          exact chk_arg (badP_no ck1 ck6 (by first | exact .inl ce1 | exact .inr ces) (by first | exact .inl ce5 | exact .inr cen) cz (hnl ())) (by simp [argP, cn0])
                        clear hinv hd hp
                        try clear hb ha hdl
                        try clear hnl
                        repeat (first | refine gG ?_ | refine zN1 (fun hlen => ?_) | refine zN2 (fun hlen => ?_) | refine zSub ?_ | refine zAl (fun _ => ?_))
                        first | refine zR ?_ | refine zQ ?_
                        rw [hres]
                        rfl
                      · have n0 : decide (nu < 0) = false := decide_eq_false cn0
                        have n0n : (!decide (nu < 0)) = true := by rw [n0]; rfl
                        by_cases cn2 : nu > 200
                        · have n2 : decide (nu > 200) = true := decide_eq_true cn2
                          have n2n : (!decide (nu > 200)) = false := by rw [n2]; rfl
                          have hres : chkD d = 1 := by
                            rw [hinv, hd]
                            exact chk_arg (badP_no ck1 ck6 (by first | exact .inl ce1 | exact .inr ces) (by first | exact .inl ce5 | exact .inr cen) cz (hnl ())) (by simp [argP, cn2])
                          clear hinv hd hp
                          try clear hb ha hdl
                          try clear hnl
                          repeat (first | refine gG ?_ | refine zN1 (fun hlen => ?_) | refine zN2 (fun hlen => ?_) | refine zSub ?_ | refine zAl (fun _ => ?_))
                          first | refine zR ?_ | refine zQ ?_
                          rw [hres]
                          rfl
                        · have n2 : decide (nu > 200) = false := decide_eq_false cn2
                          have n2n : (!decide (nu > 200)) = true := by rw [n2]; rfl
                          have hb : badP ⟨ka, nu, s⟩ = false := badP_no ck1 ck6 (by first | exact .inl ce1 | exact .inr ces) (by first | exact .inl ce5 | exact .inr cen) cz (hnl ())
                          have ha : argP ⟨ka, nu, s⟩ = false := by simp only [argP, n0, Bool.false_or, decide_eq_false_iff_not]; omega
                          have hdl : dl ⟨ka, nu, s⟩ = -1 := by simp [dl, ce5, ce6]
                          have r2 : decide (k - 1 > 200) = false := decide_eq_false (by omega)
                          by_cases cr : k - 1 < 0
                          · have r1 : decide (k - 1 < 0) = true := decide_eq_true cr
                            have hres : chkD d = 3 := by
                              rw [hinv, hd]
                              exact chk_far hb ha (by rw [hdl]; omega)
                            clear hinv hd hp
                            try clear hb ha hdl
                            try clear hnl
                            repeat (first | refine gG ?_ | refine zN1 (fun hlen => ?_) | refine zN2 (fun hlen => ?_) | refine zSub ?_ | refine zAl (fun _ => ?_))
                            first | refine zR ?_ | refine zQ ?_
                            rw [hres]
                            rfl
                          · have r1 : decide (k - 1 < 0) = false := decide_eq_false cr
                            have hnext : chkD d = chk (k - 1) (d.drop (i + 1)) := by
                              rw [hinv, hd, chk_next hb ha (by rw [hdl]; omega), hdl]
                              rfl
                            clear hinv hd hp hb ha hdl hnl
                            try clear k1
                            try clear k1n
                            try clear k6
                            try clear k6n
                            try clear e1
                            try clear e1n
                            try clear es
                            try clear esn
                            try clear en
                            try clear enn
                            try clear e5n
                            try clear e6n
                            try clear zn
                            try clear n0n
                            try clear n2n
                            try clear ck1
                            try clear ck6
                            try clear ce1
                            try clear ces
                            try clear ce5
                            try clear cen
                            try clear ce6
                            try clear cz
                            try clear cn0
                            try clear cn2
                            try clear hop
                            repeat (first | refine gG ?_ | refine zN1 (fun hlen => ?_) | refine zN2 (fun hlen => ?_) | refine zSub ?_ | refine zAl (fun _ => ?_))
                            exact ⟨(i + 1, k - 1), ⟨hi', by dsimp only; omega, by dsimp only; omega, hnext⟩, by dsimp only; omega, x_wkd 0 ⟨rfl, rfl, trivial⟩ rfl (by repeat (first | exact ag_refl | refine ag_upd rfl ?_ | refine ag_at rfl rfl ?_))⟩
                · have e6 : decide (ka = 6) = false := decide_eq_false ce6
                  have e6n : (!decide (ka = 6)) = true := by rw [e6]; rfl
                  by_cases cz : ((s.size : Nat) : Int) > 4000
                  · have z : decide (((s.size : Nat) : Int) > 4000) = true := decide_eq_true cz
                    have zn : (!decide (((s.size : Nat) : Int) > 4000)) = false := by rw [z]; rfl
                    have hres : chkD d = 3 := by
                      rw [hinv, hd]
                      exact chk_bad (by simp only [badP, Bool.or_eq_true, decide_eq_true_eq]; omega)
                    clear hinv hd hp
                    try clear hb ha hdl
                    try clear hnl
                    repeat (first | refine gG ?_ | refine zN1 (fun hlen => ?_) | refine zN2 (fun hlen => ?_) | refine zSub ?_ | refine zAl (fun _ => ?_))
                    first | refine zR ?_ | refine zQ ?_
                    rw [hres]
                    rfl
                  · have z : decide (((s.size : Nat) : Int) > 4000) = false := decide_eq_false cz
                    have zn : (!decide (((s.size : Nat) : Int) > 4000)) = true := by rw [z]; rfl
                    cases hnl : nlB s with
                    | true =>
                      rw [hnl] at hcon
                      have hres : chkD d = 3 := by
                        rw [hinv, hd]
                        exact chk_bad (by simp [badP, hnl])
                      clear hinv hd hp hnl
                      repeat (first | refine gG ?_ | refine zN1 (fun hlen => ?_) | refine zN2 (fun hlen => ?_) | refine zSub ?_ | refine zAl (fun _ => ?_))
                      refine zCall (hcon) ?_
                      rintro _ rfl
                      repeat (first | refine gG ?_ | refine zN1 (fun hlen => ?_) | refine zN2 (fun hlen => ?_) | refine zSub ?_ | refine zAl (fun _ => ?_))
                      first | refine zR ?_ | refine zQ ?_
                      rw [hres]
                      rfl
                    | false =>
                      rw [hnl] at hcon
                      replace hnl := fun _ : Unit => hnl
                      repeat (first | refine gG ?_ | refine zN1 (fun hlen => ?_) | refine zN2 (fun hlen => ?_) | refine zSub ?_ | refine zAl (fun _ => ?_))
                      refine zCall (hcon) ?_
                      rintro _ rfl
                      clear hcon
                      by_cases cn0 : nu < 0
                      · have n0 : decide (nu < 0) = true := decide_eq_true cn0
                        have n0n : (!decide (nu < 0)) = false := by rw [n0]; rfl
                        have hres : chkD d = 1 := by
                          rw [hinv, hd]
                          exact chk_arg (badP_no ck1 ck6 (by first | exact .inl ce1 | exact .inr ces) (by first | exact .inl ce5 | exact .inr cen) cz (hnl ())) (by simp [argP, cn0])
                        clear hinv hd hp
                        try clear hb ha hdl
                        try clear hnl
                        repeat (first | refine gG ?_ | refine zN1 (fun hlen => ?_) | refine zN2 (fun hlen => ?_) | refine zSub ?_ | refine zAl (fun _ => ?_))
                        first | refine zR ?_ | refine zQ ?_
                        rw [hres]
                        rfl
                      · have n0 : decide (nu < 0) = false := decide_eq_false cn0
                        have n0n : (!decide (nu < 0)) = true := by rw [n0]; rfl
                        by_cases cn2 : nu > 200
                        · have n2 : decide (nu > 200) = true := decide_eq_true cn2
                          have n2n : (!decide (nu > 200)) = false := by rw [n2]; rfl
                          have hres : chkD d = 1 := by
                            rw [hinv, hd]
                            exact chk_arg (badP_no ck1 ck6 (by first | exact .inl ce1 | exact .inr ces) (by first | exact .inl ce5 | exact .inr cen) cz (hnl ())) (by simp [argP, cn2])
                          clear hinv hd hp
                          try clear hb ha hdl
                          try clear hnl
                          repeat (first | refine gG ?_ | refine zN1 (fun hlen => ?_) | refine zN2 (fun hlen => ?_) | refine zSub ?_ | refine zAl (fun _ => ?_))
                          first | refine zR ?_ | refine zQ ?_
                          rw [hres]
                          rfl
                        · have n2 : decide (nu > 200) = false := decide_eq_false cn2
                          have n2n : (!decide (nu > 200)) = true := by rw [n2]; rfl
                          have hb : badP ⟨ka, nu, s⟩ = false := badP_no ck1 ck6 (by first | exact .inl ce1 | exact .inr ces) (by first | exact .inl ce5 | exact .inr cen) cz (hnl ())
                          have ha : argP ⟨ka, nu, s⟩ = false := by simp only [argP, n0, Bool.false_or, decide_eq_false_iff_not]; omega
                          have hdl : dl ⟨ka, nu, s⟩ = 0 := by simp [dl, ce5, ce6]
                          have r1 : decide (k < 0) = false := decide_eq_false (by omega)
                          have r2 : decide (k > 200) = false := decide_eq_false (by omega)
                          have hnext : chkD d = chk (k) (d.drop (i + 1)) := by
                            rw [hinv, hd, chk_next hb ha (by rw [hdl]; omega), hdl]
                            rw [Int.add_zero]
                          clear hinv hd hp hb ha hdl hnl
                          try clear k1
                          try clear k1n
                          try clear k6
                          try clear k6n
                          try clear e1
                          try clear e1n
                          try clear es
                          try clear esn
                          try clear en
                          try clear enn
                          try clear e5n
                          try clear e6n
                          try clear zn
                          try clear n0n
                          try clear n2n
                          try clear ck1
                          try clear ck6
                          try clear ce1
                          try clear ces
                          try clear ce5
                          try clear cen
                          try clear ce6
                          try clear cz
                          try clear cn0
                          try clear cn2
                          try clear hop
                          repeat (first | refine gG ?_ | refine zN1 (fun hlen => ?_) | refine zN2 (fun hlen => ?_) | refine zSub ?_ | refine zAl (fun _ => ?_))
                          exact ⟨(i + 1, k), ⟨hi', by dsimp only; omega, by dsimp only; omega, hnext⟩, by dsimp only; omega, x_wkd 0 ⟨rfl, rfl, trivial⟩ rfl (by repeat (first | exact ag_refl | refine ag_upd rfl ?_ | refine ag_at rfl rfl ?_))⟩
              · have en : decide (nu = 0) = false := decide_eq_false cen
                have enn : (!decide (nu = 0)) = true := by rw [en]; rfl
                have hres : chkD d = 3 := by
                  rw [hinv, hd]
                  exact chk_bad (by simp [badP, ce5, cen])
                clear hinv hd hp
                try clear hb ha hdl
                try clear hnl
                repeat (first | refine gG ?_ | refine zN1 (fun hlen => ?_) | refine zN2 (fun hlen => ?_) | refine zSub ?_ | refine zAl (fun _ => ?_))
                first | refine zR ?_ | refine zQ ?_
                rw [hres]
                rfl
          · have es : decide (s = ⟨#[]⟩) = false := decide_eq_false ces
            have esn : (!decide (s = ⟨#[]⟩)) = true := by rw [es]; rfl
            have hres : chkD d = 3 := by
              rw [hinv, hd]
              exact chk_bad (by simp [badP, ce1, ces])
            clear hinv hd hp
            try clear hb ha hdl
            try clear hnl
            repeat (first | refine gG ?_ | refine zN1 (fun hlen => ?_) | refine zN2 (fun hlen => ?_) | refine zSub ?_ | refine zAl (fun _ => ?_))
            first | refine zR ?_ | refine zQ ?_
            rw [hres]
            rfl
  · have hi' : i = d.length := by
      have : ¬ i < d.length := by simpa using h
      omega
    subst hi'
    rw [List.drop_length, chk] at hinv
    clear h
    by_cases hk : k = 0
    · rw [if_pos hk] at hinv
      have q1 : (!decide (k = 0)) = false := by rw [decide_eq_true hk]; rfl
      have q2 : decide (k > 0) = false := decide_eq_false (by omega)
      repeat (first | refine gG ?_ | refine zN1 (fun hlen => ?_) | refine zN2 (fun hlen => ?_) | refine zSub ?_ | refine zAl (fun _ => ?_))
      first | refine zR ?_ | refine zQ ?_
      rw [hinv]
      rfl
    · rw [if_neg hk] at hinv
      have q1 : (!decide (k = 0)) = true := by rw [decide_eq_false hk]; rfl
      have q2 : decide (k > 0) = true := decide_eq_true (by omega)
      repeat (first | refine gG ?_ | refine zN1 (fun hlen => ?_) | refine zN2 (fun hlen => ?_) | refine zSub ?_ | refine zAl (fun _ => ?_))
      first | refine zR ?_ | refine zQ ?_
      rw [hinv]
      rfl
end Go.Proofs.Ytgjfiedepfjdcaa
namespace Go.Proofs.Ytgjfiedepfjdcaa
open Go.RowKit
section
variable {P : Program} {F : Frm} {L : Tab} {d : Option Tmp} {ty : TypeId} {pos : String} {aft : Array Edge} {g : Option (Nat × Bool)} {o : Oper} {ρ : Operand → AV} {hp : List Blk} {K : AV → List Blk → Prop}
theorem lo_hint (j : Nat) (h : LO P F o ρ hp fun a hp' => ∃ i b off, a = .ptr i b off ∧ K (.ptr j b off) hp') : LO P F o ρ hp K := by
  refine ⟨fun M e w he hh => (h.out M e w he hh).mono ?_⟩
  rintro u w' ⟨M', a, hp', ⟨i, b, off, rfl, hK⟩, hx, hh2, hr⟩
  exact ⟨M', _, hp', hK, hx, hh2, by simpa only [RA] using hr⟩
/-- a variable is made, at the end of the blocks; its hint is 0 -/
theorem zAlE {t : TypeId} {ti : TI} {cs : List AV} (h : ∀ b, K (.ptr 0 b 0) (hp ++ [.box b t cs])) (hL : TabOk P L := by exact tok) (ht : L.look t = some ti := by exact rfl) (hz : evl (ti.zero.map fun v => AV.c (.lit v)) = some cs := by exact rfl) : LO P F ⟨d, .alloc t, ty, pos, aft, g⟩ ρ hp K :=
  lo_hint 0 (lo_alloc hL ht fun b => ⟨_, b, 0, rfl, by rw [← evl_eq hz]; exact h b⟩)
end
end Go.Proofs.Ytgjfiedepfjdcaa
namespace Go.Proofs.Ytgjfiedepfjdcaa
open Go.RowKit
theorem layR_tree {Q : List Nd} (hQ : Nd.oks Q) (W : Int) : (lsK (Nd.flats Q) W (msK (Nd.flats Q) (Nd.flats Q).length).out (Nd.flats Q).length).out = (Nd.lays W Q 0 0 0 true).1 := by
  have h := layM_eq hQ W
  unfold layM at h
  unfold lsK msK
  rw [List.take_length]
  exact h
theorem nil_app (a : ByteArray) : (⟨#[]⟩ : ByteArray) ++ a = a := by
  apply ByteArray.ext
  simp [ByteArray.data_append]
set_option maxRecDepth 100000 in
set_option maxHeartbeats 8000000 in
theorem laidR_af (d : List Lp) (W : Int) : AF Try.prog 6 [Lp.row d, .lit (.int .i64 W)] (· = .tup [.lit (.string (layR d W).1), .lit (.int .i64 (layR d W).2)]) := by
  have hc := layFault_af d
  unfold layR
  by_cases h0 : chkD d = 0
  case neg =>
    rw [if_neg h0]
    have q : (!decide (chkD d = 0)) = true := by rw [decide_eq_false h0]; rfl
    generalize chkD d = e at *
    refine af_enter tok Try.func6 Try.ntmps6 Try.results6 rfl (by kernel_rfl) rfl rfl fun F hX => ?_
    repeat (first | refine gG ?_ | refine zAl (fun _ => ?_))
    refine zCall (hc) ?_
    rintro _ rfl
    repeat (first | refine gG ?_ | refine zAl (fun _ => ?_))
    first | refine zR (ts := [.lit (.string ⟨#[]⟩), .lit (.int .i64 e)]) ?_ | refine zQ (ts := [.lit (.string ⟨#[]⟩), .lit (.int .i64 e)]) ?_
    rfl
  rw [if_pos h0]
  have hl : d.length ≤ 8000 := by
    unfold chkD at h0
    split at h0
    · cases h0
    · omega
  have hch : chk 0 d = 0 := by
    unfold chkD at h0
    rw [if_neg (by omega)] at h0
    exact h0
  rw [h0] at hc
  have q0 : (!decide ((0 : Int) = 0)) = false := rfl
  by_cases hW : W < 1 ∨ 200 < W
  case pos =>
    rw [if_pos hW]
    by_cases w1 : W < 1
    · have e1 : decide (W < 1) = true := decide_eq_true w1
      refine af_enter tok Try.func6 Try.ntmps6 Try.results6 rfl (by kernel_rfl) rfl rfl fun F hX => ?_
      repeat (first | refine gG ?_ | refine zAl (fun _ => ?_))
      refine zCall (hc) ?_
      rintro _ rfl
      repeat (first | refine gG ?_ | refine zAl (fun _ => ?_))
      first | refine zR (ts := [.lit (.string ⟨#[]⟩), .lit (.int .i64 1)]) ?_ | refine zQ (ts := [.lit (.string ⟨#[]⟩), .lit (.int .i64 1)]) ?_
      rfl
    · have e1 : decide (W < 1) = false := decide_eq_false w1
      have e2 : decide (W > 200) = true := decide_eq_true (by omega)
      refine af_enter tok Try.func6 Try.ntmps6 Try.results6 rfl (by kernel_rfl) rfl rfl fun F hX => ?_
      repeat (first | refine gG ?_ | refine zAl (fun _ => ?_))
      refine zCall (hc) ?_
      rintro _ rfl
      repeat (first | refine gG ?_ | refine zAl (fun _ => ?_))
      first | refine zR (ts := [.lit (.string ⟨#[]⟩), .lit (.int .i64 1)]) ?_ | refine zQ (ts := [.lit (.string ⟨#[]⟩), .lit (.int .i64 1)]) ?_
      rfl
  rw [if_neg hW]
  have e1 : decide (W < 1) = false := decide_eq_false (by omega)
  have e2 : decide (W > 200) = false := decide_eq_false (by omega)
  obtain ⟨Q, hQ, rfl⟩ := parse0 hch
  rw [layR_tree hQ W]
  have hg := grouped_ag (Nd.flats Q).length Q [] (Nat.le_refl _) hQ (.inl rfl) (by rw [List.append_nil]; exact hl)
  rw [List.append_nil] at hg
  clear h0 hch
  refine af_enter tok Try.func6 Try.ntmps6 Try.results6 rfl (by kernel_rfl) rfl rfl fun F hX => ?_
  repeat (first | refine gG ?_ | refine zAl (fun _ => ?_))
  refine zCall (hc) ?_
  rintro _ rfl
  repeat (first | refine gG ?_ | refine zAl (fun _ => ?_))
  refine zCallAll hg (List.Perm.refl _) ?_
  rintro _ _ ⟨l, v, hn, ho, rfl, rfl⟩
  refine ⟨_, re_refl, ?_⟩
  have hcl := Gn.cnts_flats l ho
  rw [hn] at hcl
  have hfo := follow_ag 8000 l v 0 (by omega) (by omega) ho (Int.le_refl 0) (by omega)
  have hss := Gn.sets_same l 0
  have hsd := Gn.sets_done l 0
  have hsl := Gn.sets_len l 0
  repeat (first | refine gG ?_ | refine zAl (fun _ => ?_))
  refine zCallAll hfo (List.Perm.refl _) ?_
  rintro _ _ ⟨rfl, rfl⟩
  refine ⟨_, re_refl, ?_⟩
  repeat (first | refine gG ?_ | refine zAl (fun _ => ?_))
  rw [← hsl, ← hss.2.2.1]
  have hso := hss.2.2.2 ho
  have hsc := hss.2.1
  have hsn := hss.1
  rw [hn] at hsn
  generalize Gn.sets l 0 = L at *
  refine zAlE (fun ab => ?_)
  repeat (first | refine gO ?_ | refine zAl (fun _ => ?_))
  refine ac_wk (Wk.trans (wk_perm (hp' := Blk.box ab 35 [.c (.lit (.pointer none)), .c (.lit (.slice none 0 0))] :: Blk.row v 63 1 L.length (L.map Gn.ptr) :: Gn.bls L) (List.perm_append_comm (l₁ := Blk.row v 63 1 L.length (L.map Gn.ptr) :: Gn.bls L) (l₂ := [Blk.box ab 35 [.c (.lit (.pointer none)), .c (.lit (.slice none 0 0))]])))
    (Wk.trans (wk_boxR 0 [.c (.lit (.pointer none)), .own 1 (.slice none 0 0)] rfl (res_cons re_refl (res_cons (fun M u hu => by simp only [RA, RT] at hu ⊢; exact ⟨hu, rfl⟩) res_nil)))
    (Wk.trans (wk_nils 5 1 (by omega) 1)
    (wk_perm (hp' := bB false ab (.slice none 0 0) [] ++ (Blk.row v 63 1 L.length (L.map Gn.ptr) :: Gn.bls L)) ((List.perm_append_comm (l₁ := Blk.row v 63 1 L.length (L.map Gn.ptr) :: Gn.bls L) (l₂ := [Blk.row (.slice none 0 0) 5 1 0 []])).cons (Blk.box ab 35 [.c (.lit (.pointer none)), .own 1 (.slice none 0 0)])))))) ?_
  have hla := laid_ag 8000 L v 0 0 W 0 true false ab (.slice none 0 0) ⟨#[]⟩ (by omega) (by omega) hso hsd (Int.le_refl 0) (by omega) (Int.le_refl 0) (by omega) (by omega) (by omega) (Int.le_refl 0) (by omega) (by show 0 + _ ≤ _; omega) (fun _ => rfl)
  rw [hsn] at hla
  generalize Nd.lays W Q 0 0 0 true = y at *
  obtain ⟨yt, yc⟩ := y
  dsimp only at hla ⊢
  rw [nil_app] at hla
  repeat (first | refine gG ?_ | refine zAl (fun _ => ?_))
  refine zCallAll hla (List.Perm.refl _) ?_
  rintro _ _ ⟨f2, v2, hv2, rfl, rfl⟩
  refine ⟨_, re_refl, ?_⟩
  repeat (first | refine gG ?_ | refine zAl (fun _ => ?_))
  refine lo_frame (bB f2 ab v2 yt.data.toList) (Blk.row v 63 1 L.length (L.map Gn.ptr) :: Gn.bls L) (List.Perm.refl _) (fun F' => ?_)
  refine zCallAll (bString_ag f2 ab v2 yt.data.toList hv2) (List.Perm.refl _) ?_
  rintro _ _ ⟨rfl, x, z, rfl⟩
  refine ⟨_, re_refl, ?_⟩
  repeat (first | refine gG ?_ | refine zAl (fun _ => ?_))
  first | refine zR (ts := [.lit (.string ⟨yt.data.toList.toArray⟩), .lit (.int .i64 0)]) ?_ | refine zQ (ts := [.lit (.string ⟨yt.data.toList.toArray⟩), .lit (.int .i64 0)]) ?_
  rfl
end Go.Proofs.Ytgjfiedepfjdcaa
namespace Go.Proofs.Ytgjfiedepfjdcaa
open Go.RowKit
theorem AF.reJ {P : Program} {f : FuncId} {l l' : List T} {R : T → Prop} (h : AF P f l R) (hr : ∀ M vs, RTs M l' vs → RTs M l vs) : AF P f l' R :=
  ⟨h.1, fun M w vs hG hM hvs => h.2 M w vs hG hM (hr M vs hvs)⟩
theorem rt_nilJ {M : Mm} {sz : Nat} (h0 : 0 < sz) {u : Value} (h : RT M (.lit (.slice none 0 0)) u) : RT M (.row 0 sz []) u := by
  simp only [RT] at h ⊢
  subst h
  exact ⟨none, 0, [], rfl, Nat.le_refl _, Nat.zero_le _, h0, by simp, fun h => absurd h (by omega), by simp only [RTs]⟩
theorem checkNil_af : AF Try.prog 5 [.lit (.slice none 0 0)] (· = .lit (.int .i64 0)) := by
  have h := check_af []
  rw [show chkD [] = 0 from rfl] at h
  refine h.reJ fun M vs hv => ?_
  simp only [RTs] at hv ⊢
  obtain ⟨x, r, e1, e2, e3⟩ := hv
  exact ⟨x, r, e1, rt_nilJ (by omega) e2, e3⟩
theorem lay_one : layR [⟨1, 0, ⟨#[97]⟩⟩] 5 = (⟨#[97]⟩, 0) := by
  have h1 : chkD [⟨1, 0, ⟨#[97]⟩⟩] = 0 := by decide +kernel
  unfold layR
  rw [if_pos h1, if_neg (by decide)]
  rfl
theorem lp_n {d : List Lp} {i : Nat} {p : Lp} (h : d[i]? = some p) : (d.flatMap Lp.ts)[i * 3 + 1]? = some (.lit (.int .i64 p.num)) := by
  have h1 := Lp.at h
  have h2 := congrArg (fun l : List T => l[1]?) h1
  simpa [List.getElem?_take, List.getElem?_drop, Lp.ts] using h2
set_option maxRecDepth 100000 in
set_option maxHeartbeats 8000000 in
theorem layoutLays_af (d : List Lp) (W : Int) : AF Try.prog 3 [Lp.row d, .lit (.int .i64 W)] (· = .lit (.bool true)) := by
  have h1 := lay_of check_af [⟨1, 0, ⟨#[97]⟩⟩] 5
  rw [lay_one] at h1
  have hn := checkNil_af
  have hmn : min (d.length : Int) 8001 = ((min d.length 8001 : Nat) : Int) := by omega
  have hmd : min d.length 8001 ≤ d.length := Nat.min_le_left _ _
  have hL := lay_of check_af (d.take (min d.length 8001)) W
  have hR := laidR_af (d.take (min d.length 8001)) W
  have hC := check_af (d.take (min d.length 8001))
  have hF := layFault_af (d.take (min d.length 8001))
  have c1 : (!decide ((0 : Int) = 0)) = false := rfl
  have c2 : (!decide ((⟨#[97]⟩ : ByteArray) = ⟨#[97]⟩)) = false := by rw [decide_eq_true rfl]; rfl
  have c3 : decide ((0 : Int) = 0) = true := rfl
  generalize min d.length 8001 = m at *
  unfold Lp.row at hL hR hC hF
  refine af_enter tok Try.func3 Try.ntmps3 Try.results3 rfl (by kernel_rfl) rfl rfl fun F hX => ?_
  repeat (first | refine gG ?_ | refine zN1 (fun hlen => ?_) | refine zN2 (fun hlen => ?_))
  refine zCall (h1) ?_
  rintro _ rfl
  repeat (first | refine gG ?_ | refine zN1 (fun hlen => ?_) | refine zN2 (fun hlen => ?_))
  refine zMin ?_
  repeat (first | refine gG ?_ | refine zN1 (fun hlen => ?_) | refine zN2 (fun hlen => ?_))
  refine zPhf m hmd Lp.ts_len ?_ (hz := hmn)
  generalize layR (d.take m) W = y at *
  generalize chkD (d.take m) = e at *
  generalize d.take m = D at *
  obtain ⟨yt, yc⟩ := y
  dsimp only at hL hR
  repeat (first | refine gG ?_ | refine zN1 (fun hlen => ?_) | refine zN2 (fun hlen => ?_))
  refine x_loop [4, 7, 31, 32, 33, 34, 35, 36, 37, 38, 39, 40, 41, 42, 43, 44, 45, 46, 47, 48, 49, 50, 51, 52, 53, 54, 55] (fun k : Nat => [(31, .c (.lit (.int .i64 (k : Nat))))]) (fun _ => []) (fun k => k ≤ D.length) (fun k => D.length - k) 0 (Nat.zero_le _) ⟨rfl, trivial⟩ rfl ?_
  rintro k hk
  repeat (first | refine gG ?_ | refine zN1 (fun hlen => ?_) | refine zN2 (fun hlen => ?_))
  refine x_cond rfl (fun h => ?_) (fun h => ?_)
  · have hk' : k < D.length := by simpa using h
    obtain ⟨p, hp⟩ := nth hk'
    have hkd := lp_kind hp
    have hnm := lp_n hp
    clear h hp hL hR hC hF h1
    repeat (first | refine gG ?_ | refine zN1 (fun hlen => ?_) | refine zN2 (fun hlen => ?_))
    refine zIx k hk' ?_
    repeat (first | refine gG ?_ | refine zN1 (fun hlen => ?_) | refine zN2 (fun hlen => ?_))
    refine zEl1 hkd ?_
    by_cases h5 : p.kind = 5
    · have f5 : decide (p.kind = 5) = true := decide_eq_true h5
      repeat (first | refine gG ?_ | refine zN1 (fun hlen => ?_) | refine zN2 (fun hlen => ?_))
      refine zIx k hk' ?_
      repeat (first | refine gG ?_ | refine zN1 (fun hlen => ?_) | refine zN2 (fun hlen => ?_))
      refine zEl1 hnm ?_
      by_cases h30 : p.num > 30
      · have f30 : decide (p.num > 30) = true := decide_eq_true h30
        by_cases h200 : ((D.length : Nat) : Int) > 200
        · have f200 : decide (((D.length : Nat) : Int) > 200) = true := decide_eq_true h200
          repeat (first | refine gG ?_ | refine zN1 (fun hlen => ?_) | refine zN2 (fun hlen => ?_))
          refine zCall (hn) ?_
          rintro _ rfl
          repeat (first | refine gG ?_ | refine zN1 (fun hlen => ?_) | refine zN2 (fun hlen => ?_))
          first | refine zR ?_ | refine zQ ?_
          rfl
        · have f200 : decide (((D.length : Nat) : Int) > 200) = false := decide_eq_false h200
          repeat (first | refine gG ?_ | refine zN1 (fun hlen => ?_) | refine zN2 (fun hlen => ?_))
          exact ⟨k + 1, hk', by omega, x_wkd 0 ⟨rfl, trivial⟩ rfl (by repeat (first | exact ag_refl | refine ag_upd rfl ?_ | refine ag_at rfl rfl ?_))⟩
      · have f30 : decide (p.num > 30) = false := decide_eq_false h30
        repeat (first | refine gG ?_ | refine zN1 (fun hlen => ?_) | refine zN2 (fun hlen => ?_))
        exact ⟨k + 1, hk', by omega, x_wkd 0 ⟨rfl, trivial⟩ rfl (by repeat (first | exact ag_refl | refine ag_upd rfl ?_ | refine ag_at rfl rfl ?_))⟩
    · have f5 : decide (p.kind = 5) = false := decide_eq_false h5
      repeat (first | refine gG ?_ | refine zN1 (fun hlen => ?_) | refine zN2 (fun hlen => ?_))
      exact ⟨k + 1, hk', by omega, x_wkd 0 ⟨rfl, trivial⟩ rfl (by repeat (first | exact ag_refl | refine ag_upd rfl ?_ | refine ag_at rfl rfl ?_))⟩
  · clear h
    have g1 : decide (e = e) = true := decide_eq_true rfl
    have g2 : decide (yt = yt) = true := decide_eq_true rfl
    have g3 : decide (yc = yc) = true := decide_eq_true rfl
    repeat (first | refine gG ?_ | refine zN1 (fun hlen => ?_) | refine zN2 (fun hlen => ?_))
    refine zCall (hL) ?_
    rintro _ rfl
    repeat (first | refine gG ?_ | refine zN1 (fun hlen => ?_) | refine zN2 (fun hlen => ?_))
    refine zCall (hR) ?_
    rintro _ rfl
    repeat (first | refine gG ?_ | refine zN1 (fun hlen => ?_) | refine zN2 (fun hlen => ?_))
    refine zCall (hC) ?_
    rintro _ rfl
    repeat (first | refine gG ?_ | refine zN1 (fun hlen => ?_) | refine zN2 (fun hlen => ?_))
    refine zCall (hF) ?_
    rintro _ rfl
    repeat (first | refine gG ?_ | refine zN1 (fun hlen => ?_) | refine zN2 (fun hlen => ?_))
    first | refine zR ?_ | refine zQ ?_
    rw [g3]
    rfl
end Go.Proofs.Ytgjfiedepfjdcaa
namespace Go.Proofs.Ytgjfiedepfjdcaa
open Go.ChangeShapes Go.WideShapes Go.ChangeAt Go.RowKit Go.Deep
section
variable {H : Type} {enc : TypeId × Value → H} {P : Program} {w : World} {base : Nat} {spare : Nat → Bool} {held : Bool}
theorem bulk_one (d : DataW H) : 1 ≤ Rows.uptoBulk d := by
  cases d with
  | lit l => cases l <;> simp [Rows.uptoBulk]
  | _ => simp [Rows.uptoBulk]
end
end Go.Proofs.Ytgjfiedepfjdcaa
