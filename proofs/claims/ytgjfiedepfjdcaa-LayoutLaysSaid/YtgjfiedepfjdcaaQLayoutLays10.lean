/-
  Texts of this proof, part 10: Jlc.
-/
import Derived.Test.YtgjfiedepfjdcaaQLayoutLays9
import Derived.Laws.IdiomRangeMap
import Derived.Laws.Strings2
import Derived.WideKeyEntry
namespace Go.Proofs.Ytgjfiedepfjdcaa
open Go.RowKit
set_option maxRecDepth 100000 in
set_option maxHeartbeats 8000000 in
theorem check_af (d : List Lp) : AF Try.prog 5 [Lp.row d] (· = .lit (.int .i64 (chkD d))) := by
  by_cases c8 : 8000 < d.length
  · have hres : chkD d = 2 := by unfold chkD; rw [if_pos c8]
    have d8 : decide (((d.length : Nat) : Int) > 8000) = true := decide_eq_true (by omega)
    refine af_enter tok Try.func5 Try.ntmps5 Try.results5 rfl (by kernel_rfl) rfl rfl fun F hX => ?_
    repeat (first | refine gG ?_ | refine zN1 (fun hlen => ?_) | refine zN2 (fun hlen => ?_) | refine zSub ?_ | refine zAl (fun _ => ?_))
    first | refine zR ?_ | refine zQ ?_
    rw [hres]
    rfl
  have hinv0 : chkD d = chk 0 (d.drop 0) := by unfold chkD; rw [if_neg c8]; rfl
  have d8 : decide (((d.length : Nat) : Int) > 8000) = false := decide_eq_false (by omega)
  refine af_enter tok Try.func5 Try.ntmps5 Try.results5 rfl (by kernel_rfl) rfl rfl fun F hX => ?_
  repeat (first | refine gG ?_ | refine zN1 (fun hlen => ?_) | refine zN2 (fun hlen => ?_) | refine zSub ?_ | refine zAl (fun _ => ?_))
  refine x_loop [2, 3, 5, 11, 12, 13, 14, 15, 16, 17, 18, 19, 20, 21, 22, 23, 24, 25, 26, 27, 28, 29, 30, 31, 32, 33, 34, 35, 36, 37, 38, 39, 40, 41, 42, 43, 44, 45, 46, 47, 48, 49, 50, 51, 52, 53, 54, 55, 56, 57, 58, 59, 60, 61, 62, 63, 64, 65, 66, 67, 68, 69, 70, 71, 72, 73, 74, 75, 76, 77, 78, 79] (fun y : Nat × Int => [(11, .c (.lit (.int .i64 (y.1 : Nat)))), (3, .c (.lit (.int .i64 y.2)))]) (fun _ => []) (fun y => y.1 ≤ d.length ∧ 0 ≤ y.2 ∧ y.2 ≤ 200 ∧ chkD d = chk y.2 (d.drop y.1)) (fun y => d.length - y.1) (0, 0) ⟨Nat.zero_le _, by decide, by decide, hinv0⟩ ⟨rfl, rfl, trivial⟩ rfl ?_
  rintro ⟨i, k⟩ ⟨hi, hk0, hk2, hinv⟩
  dsimp only at hi hk0 hk2 hinv ⊢
  clear hinv0
  repeat (first | refine gG ?_ | refine zN1 (fun hlen => ?_) | refine zN2 (fun hlen => ?_) | refine zSub ?_ | refine zAl (fun _ => ?_))
  refine x_cond rfl (fun h => ?_) (fun h => ?_)
  · have hi' : i < d.length := by simpa using h
    obtain ⟨p, hp⟩ := nth hi'
    have hd := drop_cons hp
    clear h d8
    repeat (first | refine gG ?_ | refine zN1 (fun hlen => ?_) | refine zN2 (fun hlen => ?_) | refine zSub ?_ | refine zAl (fun _ => ?_))
    refine zIx (i) (hi') ?_
    repeat (first | refine gG ?_ | refine zN1 (fun hlen => ?_) | refine zN2 (fun hlen => ?_) | refine zSub ?_ | refine zAl (fun _ => ?_))
    refine zEl (Lp.at hp) (Lp.ts_len p) ?_
    obtain ⟨ka, nu, s⟩ := p
    have hcon := contains_af s
    repeat (first | refine gG ?_ | refine zN1 (fun hlen => ?_) | refine zN2 (fun hlen => ?_) | refine zSub ?_ | refine zAl (fun _ => ?_))
    by_cases ck1 : ka < 1
    · have k1 : decide (ka < 1) = true := decide_eq_true ck1
      have k1n : (!decide (ka < 1)) = false := by rw [k1]; rfl
      have hres : chkD d = 3 := by
        rw [hinv, hd]
        exact chk_bad (by simp [badP, ck1])
      clear hinv hd hp
      try clear hb ha hdl
      try clear hnl
      repeat (first | refine gG ?_ | refine zN1 (fun hlen => ?_) | refine zN2 (fun hlen => ?_) | refine zSub ?_ | refine zAl (fun _ => ?_))
      first | refine zR ?_ | refine zQ ?_
      rw [hres]
      rfl
    · have k1 : decide (ka < 1) = false := decide_eq_false ck1
      have k1n : (!decide (ka < 1)) = true := by rw [k1]; rfl
      by_cases ck6 : ka > 6
      · have k6 : decide (ka > 6) = true := decide_eq_true ck6
        have k6n : (!decide (ka > 6)) = false := by rw [k6]; rfl
        have hres : chkD d = 3 := by
          rw [hinv, hd]
          exact chk_bad (by simp [badP, show 6 < ka from ck6])
        clear hinv hd hp
        try clear hb ha hdl
        try clear hnl
        repeat (first | refine gG ?_ | refine zN1 (fun hlen => ?_) | refine zN2 (fun hlen => ?_) | refine zSub ?_ | refine zAl (fun _ => ?_))
        first | refine zR ?_ | refine zQ ?_
        rw [hres]
        rfl
      · have k6 : decide (ka > 6) = false := decide_eq_false ck6
        have k6n : (!decide (ka > 6)) = true := by rw [k6]; rfl
        by_cases ce1 : ka = 1
        · have e1 : decide (ka = 1) = true := decide_eq_true ce1
          have e1n : (!decide (ka = 1)) = false := by rw [e1]; rfl
          have ce5 : ¬ ka = 5 := by omega
          have e5 : decide (ka = 5) = false := decide_eq_false ce5
          have e5n : (!decide (ka = 5)) = true := by rw [e5]; rfl
          have ce6 : ¬ ka = 6 := by omega
          have e6 : decide (ka = 6) = false := decide_eq_false ce6
          by_cases cen : nu = 0
          · have en : decide (nu = 0) = true := decide_eq_true cen
            have enn : (!decide (nu = 0)) = false := by rw [en]; rfl
            by_cases ces : s = ⟨#[]⟩
            · have es : decide (s = ⟨#[]⟩) = true := decide_eq_true ces
              have esn : (!decide (s = ⟨#[]⟩)) = false := by rw [es]; rfl
              by_cases cz : ((s.size : Nat) : Int) > 4000
              · have z : decide (((s.size : Nat) : Int) > 4000) = true := decide_eq_true cz
                have zn : (!decide (((s.size : Nat) : Int) > 4000)) = false := by rw [z]; rfl
                have hres : chkD d = 3 := by
                  rw [hinv, hd]
                  exact chk_bad (by simp only [badP, Bool.or_eq_true, decide_eq_true_eq]; omega)
                clear hinv hd hp
                try clear hb ha hdl
                try clear hnl
                repeat (first | refine gG ?_ | refine zN1 (fun hlen => ?_) | refine zN2 (fun hlen => ?_) | refine zSub ?_ | refine zAl (fun _ => ?_))
                first | refine zR ?_ | refine zQ ?_
                rw [hres]
                rfl
              · have z : decide (((s.size : Nat) : Int) > 4000) = false := decide_eq_false cz
                have zn : (!decide (((s.size : Nat) : Int) > 4000)) = true := by rw [z]; rfl
                cases hnl : nlB s with
                | true =>
                  rw [hnl] at hcon
                  have hres : chkD d = 3 := by
                    rw [hinv, hd]
                    exact chk_bad (by simp [badP, hnl])
                  clear hinv hd hp hnl
                  repeat (first | refine gG ?_ | refine zN1 (fun hlen => ?_) | refine zN2 (fun hlen => ?_) | refine zSub ?_ | refine zAl (fun _ => ?_))
                  refine zCall (hcon) ?_
                  rintro _ rfl
                  repeat (first | refine gG ?_ | refine zN1 (fun hlen => ?_) | refine zN2 (fun hlen => ?_) | refine zSub ?_ | refine zAl (fun _ => ?_))
                  first | refine zR ?_ | refine zQ ?_
                  rw [hres]
                  rfl
                | false =>
                  rw [hnl] at hcon
                  replace hnl := fun _ : Unit => hnl
                  repeat (first | refine gG ?_ | refine zN1 (fun hlen => ?_) | refine zN2 (fun hlen => ?_) | refine zSub ?_ | refine zAl (fun _ => ?_))
                  refine zCall (hcon) ?_
                  rintro _ rfl
                  clear hcon
                  by_cases cn0 : nu < 0
                  · have n0 : decide (nu < 0) = true := decide_eq_true cn0
                    have n0n : (!decide (nu < 0)) = false := by rw [n0]; rfl
                    have hres : chkD d = 1 := by
                      rw [hinv, hd]
                      exact chk_arg (badP_no ck1 ck6 (by first | exact .inl ce1 | exact .inr ces) (by first | exact .inl ce5 | exact .inr cen) cz (hnl ())) (by simp [argP, cn0])
                    clear hinv hd hp
                    try clear hb ha hdl
                    try clear hnl
                    repeat (first | refine gG ?_ | refine zN1 (fun hlen => ?_) | refine zN2 (fun hlen => ?_) | refine zSub ?_ | refine zAl (fun _ => ?_))
                    first | refine zR ?_ | refine zQ ?_
                    rw [hres]
                    rfl
                  · have n0 : decide (nu < 0) = false := decide_eq_false cn0
                    have n0n : (!decide (nu < 0)) = true := by rw [n0]; rfl
                    by_cases cn2 : nu > 200
                    · have n2 : decide (nu > 200) = true := decide_eq_true cn2
                      have n2n : (!decide (nu > 200)) = false := by rw [n2]; rfl
                      have hres : chkD d = 1 := by
                        rw [hinv, hd]
                        exact chk_arg (badP_no ck1 ck6 (by first | exact .inl ce1 | exact .inr ces) (by first | exact .inl ce5 | exact .inr cen) cz (hnl ())) (by simp [argP, cn2])
                      clear hinv hd hp
                      try clear hb ha hdl
                      try clear hnl
                      repeat (first | refine gG ?_ | refine zN1 (fun hlen => ?_) | refine zN2 (fun hlen => ?_) | refine zSub ?_ | refine zAl (fun _ => ?_))
                      first | refine zR ?_ | refine zQ ?_
                      rw [hres]
                      rfl
                    · have n2 : decide (nu > 200) = false := decide_eq_false cn2
                      have n2n : (!decide (nu > 200)) = true := by rw [n2]; rfl
                      have hb : badP ⟨ka, nu, s⟩ = false := badP_no ck1 ck6 (by first | exact .inl ce1 | exact .inr ces) (by first | exact .inl ce5 | exact .inr cen) cz (hnl ())
                      have ha : argP ⟨ka, nu, s⟩ = false := by simp only [argP, n0, Bool.false_or, decide_eq_false_iff_not]; omega
                      have hdl : dl ⟨ka, nu, s⟩ = 0 := by simp [dl, ce5, ce6]
                      have r1 : decide (k < 0) = false := decide_eq_false (by omega)
                      have r2 : decide (k > 200) = false := decide_eq_false (by omega)
                      have hnext : chkD d = chk (k) (d.drop (i + 1)) := by
                        rw [hinv, hd, chk_next hb ha (by rw [hdl]; omega), hdl]
                        rw [Int.add_zero]
                      clear hinv hd hp hb ha hdl hnl
                      try clear k1
                      try clear k1n
                      try clear k6
                      try clear k6n
                      try clear e1
                      try clear e1n
                      try clear es
                      try clear esn
                      try clear en
                      try clear enn
                      try clear e5n
                      try clear e6n
                      try clear zn
                      try clear n0n
                      try clear n2n
                      try clear ck1
                      try clear ck6
                      try clear ce1
                      try clear ces
                      try clear ce5
                      try clear cen
                      try clear ce6
                      try clear cz
                      try clear cn0
                      try clear cn2
                      try clear hop
                      repeat (first | refine gG ?_ | refine zN1 (fun hlen => ?_) | refine zN2 (fun hlen => ?_) | refine zSub ?_ | refine zAl (fun _ => ?_))
                      exact ⟨(i + 1, k), ⟨hi', by dsimp only; omega, by dsimp only; omega, hnext⟩, by dsimp only; omega, x_wkd 0 ⟨rfl, rfl, trivial⟩ rfl (by repeat (first | exact ag_refl | refine ag_upd rfl ?_ | refine ag_at rfl rfl ?_))⟩
            · have es : decide (s = ⟨#[]⟩) = false := decide_eq_false ces
              have esn : (!decide (s = ⟨#[]⟩)) = true := by rw [es]; rfl
              by_cases cz : ((s.size : Nat) : Int) > 4000
              · have z : decide (((s.size : Nat) : Int) > 4000) = true := decide_eq_true cz
                have zn : (!decide (((s.size : Nat) : Int) > 4000)) = false := by rw [z]; rfl
                have hres : chkD d = 3 := by
                  rw [hinv, hd]
                  exact chk_bad (by simp only [badP, Bool.or_eq_true, decide_eq_true_eq]; omega)
                clear hinv hd hp
                try clear hb ha hdl
                try clear hnl
                repeat (first | refine gG ?_ | refine zN1 (fun hlen => ?_) | refine zN2 (fun hlen => ?_) | refine zSub ?_ | refine zAl (fun _ => ?_))
                first | refine zR ?_ | refine zQ ?_
                rw [hres]
                rfl
              · have z : decide (((s.size : Nat) : Int) > 4000) = false := decide_eq_false cz
                have zn : (!decide (((s.size : Nat) : Int) > 4000)) = true := by rw [z]; rfl
                cases hnl : nlB s with
                | true =>
                  rw [hnl] at hcon
                  have hres : chkD d = 3 := by
                    rw [hinv, hd]
                    exact chk_bad (by simp [badP, hnl])
                  clear hinv hd hp hnl
                  repeat (first | refine gG ?_ | refine zN1 (fun hlen => ?_) | refine zN2 (fun hlen => ?_) | refine zSub ?_ | refine zAl (fun _ => ?_))
                  refine zCall (hcon) ?_
                  rintro _ rfl
                  repeat (first | refine gG ?_ | refine zN1 (fun hlen => ?_) | refine zN2 (fun hlen => ?_) | refine zSub ?_ | refine zAl (fun _ => ?_))
                  first | refine zR ?_ | refine zQ ?_
                  rw [hres]
                  rfl
                | false =>
                  rw [hnl] at hcon
                  replace hnl := fun _ : Unit => hnl
                  repeat (first | refine gG ?_ | refine zN1 (fun hlen => ?_) | refine zN2 (fun hlen => ?_) | refine zSub ?_ | refine zAl (fun _ => ?_))
                  refine zCall (hcon) ?_
                  rintro _ rfl
                  clear hcon
                  by_cases cn0 : nu < 0
                  · have n0 : decide (nu < 0) = true := decide_eq_true cn0
                    have n0n : (!decide (nu < 0)) = false := by rw [n0]; rfl
                    have hres : chkD d = 1 := by
                      rw [hinv, hd]
                      exact chk_arg (badP_no ck1 ck6 (by first | exact .inl ce1 | exact .inr ces) (by first | exact .inl ce5 | exact .inr cen) cz (hnl ())) (by simp [argP, cn0])
                    clear hinv hd hp
                    try clear hb ha hdl
                    try clear hnl
                    repeat (first | refine gG ?_ | refine zN1 (fun hlen => ?_) | refine zN2 (fun hlen => ?_) | refine zSub ?_ | refine zAl (fun _ => ?_))
                    first | refine zR ?_ | refine zQ ?_
                    rw [hres]
                    rfl
                  · have n0 : decide (nu < 0) = false := decide_eq_false cn0
                    have n0n : (!decide (nu < 0)) = true := by rw [n0]; rfl
                    by_cases cn2 : nu > 200
                    · have n2 : decide (nu > 200) = true := decide_eq_true cn2
                      have n2n : (!decide (nu > 200)) = false := by rw [n2]; rfl
                      have hres : chkD d = 1 := by
                        rw [hinv, hd]
                        exact chk_arg (badP_no ck1 ck6 (by first | exact .inl ce1 | exact .inr ces) (by first | exact .inl ce5 | exact .inr cen) cz (hnl ())) (by simp [argP, cn2])
                      clear hinv hd hp
                      try clear hb ha hdl
                      try clear hnl
                      repeat (first | refine gG ?_ | refine zN1 (fun hlen => ?_) | refine zN2 (fun hlen => ?_) | refine zSub ?_ | refine zAl (fun _ => ?_))
                      first | refine zR ?_ | refine zQ ?_
                      rw [hres]
                      rfl
                    · have n2 : decide (nu > 200) = false := decide_eq_false cn2
                      have n2n : (!decide (nu > 200)) = true := by rw [n2]; rfl
                      have hb : badP ⟨ka, nu, s⟩ = false := badP_no ck1 ck6 (by first | exact .inl ce1 | exact .inr ces) (by first | exact .inl ce5 | exact .inr cen) cz (hnl ())
                      have ha : argP ⟨ka, nu, s⟩ = false := by simp only [argP, n0, Bool.false_or, decide_eq_false_iff_not]; omega
                      have hdl : dl ⟨ka, nu, s⟩ = 0 := by simp [dl, ce5, ce6]
                      have r1 : decide (k < 0) = false := decide_eq_false (by omega)
                      have r2 : decide (k > 200) = false := decide_eq_false (by omega)
                      have hnext : chkD d = chk (k) (d.drop (i + 1)) := by
                        rw [hinv, hd, chk_next hb ha (by rw [hdl]; omega), hdl]
                        rw [Int.add_zero]
                      clear hinv hd hp hb ha hdl hnl
                      try clear k1
                      try clear k1n
                      try clear k6
                      try clear k6n
                      try clear e1
                      try clear e1n
                      try clear es
                      try clear esn
                      try clear en
                      try clear enn
                      try clear e5n
                      try clear e6n
                      try clear zn
                      try clear n0n
                      try clear n2n
                      try clear ck1
                      try clear ck6
                      try clear ce1
                      try clear ces
                      try clear ce5
                      try clear cen
                      try clear ce6
                      try clear cz
                      try clear cn0
                      try clear cn2
                      try clear hop
                      repeat (first | refine gG ?_ | refine zN1 (fun hlen => ?_) | refine zN2 (fun hlen => ?_) | refine zSub ?_ | refine zAl (fun _ => ?_))
                      exact ⟨(i + 1, k), ⟨hi', by dsimp only; omega, by dsimp only; omega, hnext⟩, by dsimp only; omega, x_wkd 0 ⟨rfl, rfl, trivial⟩ rfl (by repeat (first | exact ag_refl | refine ag_upd rfl ?_ | refine ag_at rfl rfl ?_))⟩
          · have en : decide (nu = 0) = false := decide_eq_false cen
            have enn : (!decide (nu = 0)) = true := by rw [en]; rfl
            by_cases ces : s = ⟨#[]⟩
            · have es : decide (s = ⟨#[]⟩) = true := decide_eq_true ces
              have esn : (!decide (s = ⟨#[]⟩)) = false := by rw [es]; rfl
              have hres : chkD d = 3 := by
                rw [hinv, hd]
                exact chk_bad (by simp [badP, ce5, cen])
              clear hinv hd hp
              try clear hb ha hdl
              try clear hnl
              repeat (first | refine gG ?_ | refine zN1 (fun hlen => ?_) | refine zN2 (fun hlen => ?_) | refine zSub ?_ | refine zAl (fun _ => ?_))
              first | refine zR ?_ | refine zQ ?_
              rw [hres]
              rfl
            · have es : decide (s = ⟨#[]⟩) = false := decide_eq_false ces
              have esn : (!decide (s = ⟨#[]⟩)) = true := by rw [es]; rfl
              have hres : chkD d = 3 := by
                rw [hinv, hd]
                exact chk_bad (by simp [badP, ce5, cen])
              clear hinv hd hp
              try clear hb ha hdl
              try clear hnl
              repeat (first | refine gG ?_ | refine zN1 (fun hlen => ?_) | refine zN2 (fun hlen => ?_) | refine zSub ?_ | refine zAl (fun _ => ?_))
              first | refine zR ?_ | refine zQ ?_
              rw [hres]
              rfl
        · have e1 : decide (ka = 1) = false := decide_eq_false ce1
          have e1n : (!decide (ka = 1)) = true := by rw [e1]; rfl
          by_cases ces : s = ⟨#[]⟩
          · have es : decide (s = ⟨#[]⟩) = true := decide_eq_true ces
            have esn : (!decide (s = ⟨#[]⟩)) = false := by rw [es]; rfl
            by_cases ce5 : ka = 5
            · have e5 : decide (ka = 5) = true := decide_eq_true ce5
              have e5n : (!decide (ka = 5)) = false := by rw [e5]; rfl
              have ce6 : ¬ ka = 6 := by omega
              have e6 : decide (ka = 6) = false := decide_eq_false ce6
              by_cases cen : nu = 0
              · have en : decide (nu = 0) = true := decide_eq_true cen
                have enn : (!decide (nu = 0)) = false := by rw [en]; rfl
                by_cases cz : ((s.size : Nat) : Int) > 4000
                · have z : decide (((s.size : Nat) : Int) > 4000) = true := decide_eq_true cz
                  have zn : (!decide (((s.size : Nat) : Int) > 4000)) = false := by rw [z]; rfl
                  have hres : chkD d = 3 := by
                    rw [hinv, hd]
                    exact chk_bad (by simp only [badP, Bool.or_eq_true, decide_eq_true_eq]; omega)
                  clear hinv hd hp
                  try clear hb ha hdl
                  try clear hnl
                  repeat (first | refine gG ?_ | refine zN1 (fun hlen => ?_) | refine zN2 (fun hlen => ?_) | refine zSub ?_ | refine zAl (fun _ => ?_))
                  first | refine zR ?_ | refine zQ ?_
                  rw [hres]
                  rfl
                · have z : decide (((s.size : Nat) : Int) > 4000) = false := decide_eq_false cz
                  have zn : (!decide (((s.size : Nat) : Int) > 4000)) = true := by rw [z]; rfl
                  cases hnl : nlB s with
                  | true =>
                    rw [hnl] at hcon
                    have hres : chkD d = 3 := by
                      rw [hinv, hd]
                      exact chk_bad (by simp [badP, hnl])
                    clear hinv hd hp hnl
                    repeat (first | refine gG ?_ | refine zN1 (fun hlen => ?_) | refine zN2 (fun hlen => ?_) | refine zSub ?_ | refine zAl (fun _ => ?_))
                    refine zCall (hcon) ?_
                    rintro _ rfl
                    repeat (first | refine gG ?_ | refine zN1 (fun hlen => ?_) | refine zN2 (fun hlen => ?_) | refine zSub ?_ | refine zAl (fun _ => ?_))
                    first | refine zR ?_ | refine zQ ?_
                    rw [hres]
                    rfl
                  | false =>
                    rw [hnl] at hcon
                    replace hnl := fun _ : Unit => hnl
                    repeat (first | refine gG ?_ | refine zN1 (fun hlen => ?_) | refine zN2 (fun hlen => ?_) | refine zSub ?_ | refine zAl (fun _ => ?_))
                    refine zCall (hcon) ?_
                    rintro _ rfl
                    clear hcon
                    by_cases cn0 : nu < 0
                    · have n0 : decide (nu < 0) = true := decide_eq_true cn0
                      have n0n : (!decide (nu < 0)) = false := by rw [n0]; rfl
                      have hres : chkD d = 1 := by
                        rw [hinv, hd]
                        exact chk_arg (badP_no ck1 ck6 (by first | exact .inl ce1 | exact .inr ces) (by first | exact .inl ce5 | exact .inr cen) cz (hnl ())) (by simp [argP, cn0])
                      clear hinv hd hp
                      try clear hb ha hdl
                      try clear hnl
                      repeat (first | refine gG ?_ | refine zN1 (fun hlen => ?_) | refine zN2 (fun hlen => ?_) | refine zSub ?_ | refine zAl (fun _ => ?_))
                      first | refine zR ?_ | refine zQ ?_
                      rw [hres]
                      rfl
                    · have n0 : decide (nu < 0) = false := decide_eq_false cn0
                      have n0n : (!decide (nu < 0)) = true := by rw [n0]; rfl
                      by_cases cn2 : nu > 200
                      · have n2 : decide (nu > 200) = true := decide_eq_true cn2
                        have n2n : (!decide (nu > 200)) = false := by rw [n2]; rfl
                        have hres : chkD d = 1 := by
                          rw [hinv, hd]
                          exact chk_arg (badP_no ck1 ck6 (by first | exact .inl ce1 | exact .inr ces) (by first | exact .inl ce5 | exact .inr cen) cz (hnl ())) (by simp [argP, cn2])
                        clear hinv hd hp
                        try clear hb ha hdl
                        try clear hnl
                        repeat (first | refine gG ?_ | refine zN1 (fun hlen => ?_) | refine zN2 (fun hlen => ?_) | refine zSub ?_ | refine zAl (fun _ => ?_))
                        first | refine zR ?_ | refine zQ ?_
                        rw [hres]
                        rfl
                      · have n2 : decide (nu > 200) = false := decide_eq_false cn2
                        have n2n : (!decide (nu > 200)) = true := by rw [n2]; rfl
                        have hb : badP ⟨ka, nu, s⟩ = false := badP_no ck1 ck6 (by first | exact .inl ce1 | exact .inr ces) (by first | exact .inl ce5 | exact .inr cen) cz (hnl ())
                        have ha : argP ⟨ka, nu, s⟩ = false := by simp only [argP, n0, Bool.false_or, decide_eq_false_iff_not]; omega
                        have hdl : dl ⟨ka, nu, s⟩ = 1 := by simp [dl, ce5, ce6]
                        have r1 : decide (k + 1 < 0) = false := decide_eq_false (by omega)
                        by_cases cr : k + 1 > 200
                        · have r2 : decide (k + 1 > 200) = true := decide_eq_true cr
                          have hres : chkD d = 3 := by
                            rw [hinv, hd]
                            exact chk_far hb ha (by rw [hdl]; omega)
                          clear hinv hd hp hb ha hdl hnl
                          try clear k1
                          try clear k1n
                          try clear k6
                          try clear k6n
                          try clear e1
                          try clear e1n
                          try clear es
                          try clear esn
                          try clear en
                          try clear enn
                          try clear e5n
                          try clear e6n
                          try clear zn
                          try clear n0n
                          try clear n2n
                          try clear ck1
                          try clear ck6
                          try clear ce1
                          try clear ces
                          try clear ce5
                          try clear cen
                          try clear ce6
                          try clear cz
                          try clear cn0
                          try clear cn2
                          try clear hop
                          repeat (first | refine gG ?_ | refine zN1 (fun hlen => ?_) | refine zN2 (fun hlen => ?_) | refine zSub ?_ | refine zAl (fun _ => ?_))
                          refine lo_add rfl rfl (r := k + 1) (by show IntKind.wrap .i64 (k + 1) = k + 1; rw [IntWalk.i64_in _ (by omega)]) ?_
                          repeat (first | refine gG ?_ | refine zN1 (fun hlen => ?_) | refine zN2 (fun hlen => ?_) | refine zSub ?_ | refine zAl (fun _ => ?_))
                          first | refine zR ?_ | refine zQ ?_
                          rw [hres]
                          rfl
                        · have r2 : decide (k + 1 > 200) = false := decide_eq_false cr
                          have hnext : chkD d = chk (k + 1) (d.drop (i + 1)) := by
                            rw [hinv, hd, chk_next hb ha (by rw [hdl]; omega), hdl]
                          clear hinv hd hp hb ha hdl hnl
                          try clear k1
                          try clear k1n
                          try clear k6
                          try clear k6n
                          try clear e1
                          try clear e1n
                          try clear es
                          try clear esn
                          try clear en
                          try clear enn
                          try clear e5n
                          try clear e6n
                          try clear zn
                          try clear n0n
                          try clear n2n
                          try clear ck1
                          try clear ck6
                          try clear ce1
                          try clear ces
                          try clear ce5
                          try clear cen
                          try clear ce6
                          try clear cz
                          try clear cn0
                          try clear cn2
                          try clear hop
                          repeat (first | refine gG ?_ | refine zN1 (fun hlen => ?_) | refine zN2 (fun hlen => ?_) | refine zSub ?_ | refine zAl (fun _ => ?_))
                          refine lo_add rfl rfl (r := k + 1) (by show IntKind.wrap .i64 (k + 1) = k + 1; rw [IntWalk.i64_in _ (by omega)]) ?_
                          repeat (first | refine gG ?_ | refine zN1 (fun hlen => ?_) | refine zN2 (fun hlen => ?_) | refine zSub ?_ | refine zAl (fun _ => ?_))
                          exact ⟨(i + 1, k + 1), ⟨hi', by dsimp only; omega, by dsimp only; omega, hnext⟩, by dsimp only; omega, x_wkd 0 ⟨rfl, rfl, trivial⟩ rfl (by repeat (first | exact ag_refl | refine ag_upd rfl ?_ | refine ag_at rfl rfl ?_))⟩
              · have en : decide (nu = 0) = false := decide_eq_false cen
                have enn : (!decide (nu = 0)) = true := by rw [en]; rfl
                by_cases cz : ((s.size : Nat) : Int) > 4000
                · have z : decide (((s.size : Nat) : Int) > 4000) = true := decide_eq_true cz
                  have zn : (!decide (((s.size : Nat) : Int) > 4000)) = false := by rw [z]; rfl
                  have hres : chkD d = 3 := by
                    rw [hinv, hd]
                    exact chk_bad (by simp only [badP, Bool.or_eq_true, decide_eq_true_eq]; omega)
                  clear hinv hd hp
                  try clear hb ha hdl
                  try clear hnl
                  repeat (first | refine gG ?_ | refine zN1 (fun hlen => ?_) | refine zN2 (fun hlen => ?_) | refine zSub ?_ | refine zAl (fun _ => ?_))
                  first | refine zR ?_ | refine zQ ?_
                  rw [hres]
                  rfl
                · have z : decide (((s.size : Nat) : Int) > 4000) = false := decide_eq_false cz
                  have zn : (!decide (((s.size : Nat) : Int) > 4000)) = true := by rw [z]; rfl
                  cases hnl : nlB s with
                  | true =>
                    rw [hnl] at hcon
                    have hres : chkD d = 3 := by
                      rw [hinv, hd]
                      exact chk_bad (by simp [badP, hnl])
                    clear hinv hd hp hnl
                    repeat (first | refine gG ?_ | refine zN1 (fun hlen => ?_) | refine zN2 (fun hlen => ?_) | refine zSub ?_ | refine zAl (fun _ => ?_))
                    refine zCall (hcon) ?_
                    rintro _ rfl
                    repeat (first | refine gG ?_ | refine zN1 (fun hlen => ?_) | refine zN2 (fun hlen => ?_) | refine zSub ?_ | refine zAl (fun _ => ?_))
                    first | refine zR ?_ | refine zQ ?_
                    rw [hres]
                    rfl
                  | false =>
                    rw [hnl] at hcon
                    replace hnl := fun _ : Unit => hnl
                    repeat (first | refine gG ?_ | refine zN1 (fun hlen => ?_) | refine zN2 (fun hlen => ?_) | refine zSub ?_ | refine zAl (fun _ => ?_))
                    refine zCall (hcon) ?_
                    rintro _ rfl
                    clear hcon
                    by_cases cn0 : nu < 0
                    · have n0 : decide (nu < 0) = true := decide_eq_true cn0
                      have n0n : (!decide (nu < 0)) = false := by rw [n0]; rfl
                      have hres : chkD d = 1 := by
                        rw [hinv, hd]
                        exact chk_arg (badP_no ck1 ck6 (by first | exact .inl ce1 | exact .inr ces) (by first | exact .inl ce5 | exact .inr cen) cz (hnl ())) (by simp [argP, cn0])
                      clear hinv hd hp
                      try clear hb ha hdl
                      try clear hnl
                      repeat (first | refine gG ?_ | refine zN1 (fun hlen => ?_) | refine zN2 (fun hlen => ?_) | refine zSub ?_ | refine zAl (fun _ => ?_))
                      first | refine zR ?_ | refine zQ ?_
                      rw [hres]
                      rfl
                    · have n0 : decide (nu < 0) = false := decide_eq_false cn0
                      have n0n : (!decide (nu < 0)) = true := by rw [n0]; rfl
                      by_cases cn2 : nu > 200
                      · have n2 : decide (nu > 200) = true := decide_eq_true cn2
                        have n2n : (!decide (nu > 200)) = false := by rw [n2]; rfl
                        have hres : chkD d = 1 := by
                          rw [hinv, hd]
                          exact chk_arg (badP_no ck1 ck6 (by first | exact .inl ce1 | exact .inr ces) (by first | exact .inl ce5 | exact .inr cen) cz (hnl ())) (by simp [argP, cn2])
                        clear hinv hd hp
                        try clear hb ha hdl
                        try clear hnl
                        repeat (first | refine gG ?_ | refine zN1 (fun hlen => ?_) | refine zN2 (fun hlen => ?_) | refine zSub ?_ | refine zAl (fun _ => ?_))
                        first | refine zR ?_ | refine zQ ?_
                        rw [hres]
                        rfl
                      · have n2 : decide (nu > 200) = false := decide_eq_false cn2
                        have n2n : (!decide (nu > 200)) = true := by rw [n2]; rfl
                        have hb : badP ⟨ka, nu, s⟩ = false := badP_no ck1 ck6 (by first | exact .inl ce1 | exact .inr ces) (by first | exact .inl ce5 | exact .inr cen) cz (hnl ())
                        have ha : argP ⟨ka, nu, s⟩ = false := by simp only [argP, n0, Bool.false_or, decide_eq_false_iff_not]; omega
                        have hdl : dl ⟨ka, nu, s⟩ = 1 := by simp [dl, ce5, ce6]
                        have r1 : decide (k + 1 < 0) = false := decide_eq_false (by omega)
                        by_cases cr : k + 1 > 200
                        · have r2 : decide (k + 1 > 200) = true := decide_eq_true cr
                          have hres : chkD d = 3 := by
                            rw [hinv, hd]
                            exact chk_far hb ha (by rw [hdl]; omega)
                          clear hinv hd hp hb ha hdl hnl
                          try clear k1
                          try clear k1n
                          try clear k6
                          try clear k6n
                          try clear e1
                          try clear e1n
                          try clear es
                          try clear esn
                          try clear en
                          try clear enn
                          try clear e5n
                          try clear e6n
                          try clear zn
                          try clear n0n
                          try clear n2n
                          try clear ck1
                          try clear ck6
                          try clear ce1
                          try clear ces
                          try clear ce5
                          try clear cen
                          try clear ce6
                          try clear cz
                          try clear cn0
                          try clear cn2
                          try clear hop
                          repeat (first | refine gG ?_ | refine zN1 (fun hlen => ?_) | refine zN2 (fun hlen => ?_) | refine zSub ?_ | refine zAl (fun _ => ?_))
                          refine lo_add rfl rfl (r := k + 1) (by show IntKind.wrap .i64 (k + 1) = k + 1; rw [IntWalk.i64_in _ (by omega)]) ?_
                          repeat (first | refine gG ?_ | refine zN1 (fun hlen => ?_) | refine zN2 (fun hlen => ?_) | refine zSub ?_ | refine zAl (fun _ => ?_))
                          first | refine zR ?_ | refine zQ ?_
                          rw [hres]
                          rfl
                        · have r2 : decide (k + 1 > 200) = false := decide_eq_false cr
                          have hnext : chkD d = chk (k + 1) (d.drop (i + 1)) := by
                            rw [hinv, hd, chk_next hb ha (by rw [hdl]; omega), hdl]
                          clear hinv hd hp hb ha hdl hnl
                          try clear k1
                          try clear k1n
                          try clear k6
                          try clear k6n
                          try clear e1
                          try clear e1n
                          try clear es
                          try clear esn
                          try clear en
                          try clear enn
                          try clear e5n
                          try clear e6n
                          try clear zn
                          try clear n0n
                          try clear n2n
                          try clear ck1
                          try clear ck6
                          try clear ce1
                          try clear ces
                          try clear ce5
                          try clear cen
                          try clear ce6
                          try clear cz
                          try clear cn0
                          try clear cn2
                          try clear hop
                          repeat (first | refine gG ?_ | refine zN1 (fun hlen => ?_) | refine zN2 (fun hlen => ?_) | refine zSub ?_ | refine zAl (fun _ => ?_))
                          refine lo_add rfl rfl (r := k + 1) (by show IntKind.wrap .i64 (k + 1) = k + 1; rw [IntWalk.i64_in _ (by omega)]) ?_
                          repeat (first | refine gG ?_ | refine zN1 (fun hlen => ?_) | refine zN2 (fun hlen => ?_) | refine zSub ?_ | refine zAl (fun _ => ?_))
                          exact ⟨(i + 1, k + 1), ⟨hi', by dsimp only; omega, by dsimp only; omega, hnext⟩, by dsimp only; omega, x_wkd 0 ⟨rfl, rfl, trivial⟩ rfl (by repeat (first | exact ag_refl | refine ag_upd rfl ?_ | refine ag_at rfl rfl ?_))⟩
            · have e5 : decide (ka = 5) = false := decide_eq_false ce5
              have e5n : (!decide (ka = 5)) = true := by rw [e5]; rfl
              by_cases cen : nu = 0
              · have en : decide (nu = 0) = true := decide_eq_true cen
                have enn : (!decide (nu = 0)) = false := by rw [en]; rfl
                by_cases ce6 : ka = 6
                · have e6 : decide (ka = 6) = true := decide_eq_true ce6
                  have e6n : (!decide (ka = 6)) = false := by rw [e6]; rfl
                  by_cases cz : ((s.size : Nat) : Int) > 4000
                  · have z : decide (((s.size : Nat) : Int) > 4000) = true := decide_eq_true cz
                    have zn : (!decide (((s.size : Nat) : Int) > 4000)) = false := by rw [z]; rfl
                    have hres : chkD d = 3 := by
                      rw [hinv, hd]
                      exact chk_bad (by simp only [badP, Bool.or_eq_true, decide_eq_true_eq]; omega)
                    clear hinv hd hp
                    try clear hb ha hdl
                    try clear hnl
                    repeat (first | refine gG ?_ | refine zN1 (fun hlen => ?_) | refine zN2 (fun hlen => ?_) | refine zSub ?_ | refine zAl (fun _ => ?_))
                    first | refine zR ?_ | refine zQ ?_
                    rw [hres]
                    rfl
                  · have z : decide (((s.size : Nat) : Int) > 4000) = false := decide_eq_false cz
                    have zn : (!decide (((s.size : Nat) : Int) > 4000)) = true := by rw [z]; rfl
                    cases hnl : nlB s with
                    | true =>
                      rw [hnl] at hcon
                      have hres : chkD d = 3 := by
                        rw [hinv, hd]
                        exact chk_bad (by simp [badP, hnl])
                      clear hinv hd hp hnl
                      repeat (first | refine gG ?_ | refine zN1 (fun hlen => ?_) | refine zN2 (fun hlen => ?_) | refine zSub ?_ | refine zAl (fun _ => ?_))
                      refine zCall (hcon) ?_
                      rintro _ rfl
                      repeat (first | refine gG ?_ | refine zN1 (fun hlen => ?_) | refine zN2 (fun hlen => ?_) | refine zSub ?_ | refine zAl (fun _ => ?_))
                      first | refine zR ?_ | refine zQ ?_
                      rw [hres]
                      rfl
                    | false =>
                      rw [hnl] at hcon
                      replace hnl := fun _ : Unit => hnl
                      repeat (first | refine gG ?_ | refine zN1 (fun hlen => ?_) | refine zN2 (fun hlen => ?_) | refine zSub ?_ | refine zAl (fun _ => ?_))
                      refine zCall (hcon) ?_
                      rintro _ rfl
                      clear hcon
                      by_cases cn0 : nu < 0
                      · have n0 : decide (nu < 0) = true := decide_eq_true cn0
                        have n0n : (!decide (nu < 0)) = false := by rw [n0]; rfl
                        have hres : chkD d = 1 := by
                          rw [hinv, hd]
                          exact chk_arg (badP_no ck1 ck6 (by first | exact .inl ce1 | exact .inr ces) (by first | exact .inl ce5 | exact .inr cen) cz (hnl ())) (by simp [argP, cn0])
                        clear hinv hd hp
                        try clear hb ha hdl
                        try clear hnl
                        repeat (first | refine gG ?_ | refine zN1 (fun hlen => ?_) | refine zN2 (fun hlen => ?_) | refine zSub ?_ | refine zAl (fun _ => ?_))
                        first | refine zR ?_ | refine zQ ?_
                        rw [hres]
                        rfl
                      · have n0 : decide (nu < 0) = false := decide_eq_false cn0
                        have n0n : (!decide (nu < 0)) = true := by rw [n0]; rfl
                        by_cases cn2 : nu > 200
                        · have n2 : decide (nu > 200) = true := decide_eq_true cn2
                          have n2n : (!decide (nu > 200)) = false := by rw [n2]; rfl
                          have hres : chkD d = 1 := by
                            rw [hinv, hd]
                            exact chk_arg (badP_no ck1 ck6 (by first | exact .inl ce1 | exact .inr ces) (by first | exact .inl ce5 | exact .inr cen) cz (hnl ())) (by simp [argP, cn2])
                          clear hinv hd hp
                          try clear hb ha hdl
                          try clear hnl
                          repeat (first | refine gG ?_ | refine zN1 (fun hlen => ?_) | refine zN2 (fun hlen => ?_) | refine zSub ?_ | refine zAl (fun _ => ?_))
                          first | refine zR ?_ | refine zQ ?_
                          rw [hres]
                          rfl
                        · have n2 : decide (nu > 200) = false := decide_eq_false cn2
                          have n2n : (!decide (nu > 200)) = true := by rw [n2]; rfl
                          have hb : badP ⟨ka, nu, s⟩ = false := badP_no ck1 ck6 (by first | exact .inl ce1 | exact .inr ces) (by first | exact .inl ce5 | exact .inr cen) cz (hnl ())
                          have ha : argP ⟨ka, nu, s⟩ = false := by simp only [argP, n0, Bool.false_or, decide_eq_false_iff_not]; omega
                          have hdl : dl ⟨ka, nu, s⟩ = -1 := by simp [dl, ce5, ce6]
                          have r2 : decide (k - 1 > 200) = false := decide_eq_false (by omega)
                          by_cases cr : k - 1 < 0
                          · have r1 : decide (k - 1 < 0) = true := decide_eq_true cr
                            have hres : chkD d = 3 := by
                              rw [hinv, hd]
                              exact chk_far hb ha (by rw [hdl]; omega)
                            clear hinv hd hp
                            try clear hb ha hdl
                            try clear hnl
                            repeat (first | refine gG ?_ | refine zN1 (fun hlen => ?_) | refine zN2 (fun hlen => ?_) | refine zSub ?_ | refine zAl (fun _ => ?_))
                            first | refine zR ?_ | refine zQ ?_
                            rw [hres]
                            rfl
                          · have r1 : decide (k - 1 < 0) = false := decide_eq_false cr
                            have hnext : chkD d = chk (k - 1) (d.drop (i + 1)) := by
                              rw [hinv, hd, chk_next hb ha (by rw [hdl]; omega), hdl]
                              rfl
                            clear hinv hd hp hb ha hdl hnl
                            try clear k1
                            try clear k1n
                            try clear k6
                            try clear k6n
                            try clear e1
                            try clear e1n
                            try clear es
                            try clear esn
                            try clear en
                            try clear enn
                            try clear e5n
                            try clear e6n
                            try clear zn
                            try clear n0n
                            try clear n2n
                            try clear ck1
                            try clear ck6
                            try clear ce1
                            try clear ces
                            try clear ce5
                            try clear cen
                            try clear ce6
                            try clear cz
                            try clear cn0
                            try clear cn2
                            try clear hop
                            repeat (first | refine gG ?_ | refine zN1 (fun hlen => ?_) | refine zN2 (fun hlen => ?_) | refine zSub ?_ | refine zAl (fun _ => ?_))
                            exact ⟨(i + 1, k - 1), ⟨hi', by dsimp only; omega, by dsimp only; omega, hnext⟩, by dsimp only; omega, x_wkd 0 ⟨rfl, rfl, trivial⟩ rfl (by repeat (first | exact ag_refl | refine ag_upd rfl ?_ | refine ag_at rfl rfl ?_))⟩
                · have e6 : decide (ka = 6) = false := decide_eq_false ce6
                  have e6n : (!decide (ka = 6)) = true := by rw [e6]; rfl
                  by_cases cz : ((s.size : Nat) : Int) > 4000
                  · have z : decide (((s.size : Nat) : Int) > 4000) = true := decide_eq_true cz
                    have zn : (!decide (((s.size : Nat) : Int) > 4000)) = false := by rw [z]; rfl
                    have hres : chkD d = 3 := by
                      rw [hinv, hd]
                      exact chk_bad (by simp only [badP, Bool.or_eq_true, decide_eq_true_eq]; omega)
                    clear hinv hd hp
                    try clear hb ha hdl
                    try clear hnl
                    repeat (first | refine gG ?_ | refine zN1 (fun hlen => ?_) | refine zN2 (fun hlen => ?_) | refine zSub ?_ | refine zAl (fun _ => ?_))
                    first | refine zR ?_ | refine zQ ?_
                    rw [hres]
                    rfl
                  · have z : decide (((s.size : Nat) : Int) > 4000) = false := decide_eq_false cz
                    have zn : (!decide (((s.size : Nat) : Int) > 4000)) = true := by rw [z]; rfl
                    cases hnl : nlB s with
                    | true =>
                      rw [hnl] at hcon
                      have hres : chkD d = 3 := by
                        rw [hinv, hd]
                        exact chk_bad (by simp [badP, hnl])
                      clear hinv hd hp hnl
                      repeat (first | refine gG ?_ | refine zN1 (fun hlen => ?_) | refine zN2 (fun hlen => ?_) | refine zSub ?_ | refine zAl (fun _ => ?_))
                      refine zCall (hcon) ?_
                      rintro _ rfl
                      repeat (first | refine gG ?_ | refine zN1 (fun hlen => ?_) | refine zN2 (fun hlen => ?_) | refine zSub ?_ | refine zAl (fun _ => ?_))
                      first | refine zR ?_ | refine zQ ?_
                      rw [hres]
                      rfl
                    | false =>
                      rw [hnl] at hcon
                      replace hnl := fun _ : Unit => hnl
                      repeat (first | refine gG ?_ | refine zN1 (fun hlen => ?_) | refine zN2 (fun hlen => ?_) | refine zSub ?_ | refine zAl (fun _ => ?_))
                      refine zCall (hcon) ?_
                      rintro _ rfl
                      clear hcon
                      by_cases cn0 : nu < 0
                      · have n0 : decide (nu < 0) = true := decide_eq_true cn0
                        have n0n : (!decide (nu < 0)) = false := by rw [n0]; rfl
                        have hres : chkD d = 1 := by
                          rw [hinv, hd]
                          exact chk_arg (badP_no ck1 ck6 (by first | exact .inl ce1 | exact .inr ces) (by first | exact .inl ce5 | exact .inr cen) cz (hnl ())) (by simp [argP, cn0])
                        clear hinv hd hp
                        try clear hb ha hdl
                        try clear hnl
                        repeat (first | refine gG ?_ | refine zN1 (fun hlen => ?_) | refine zN2 (fun hlen => ?_) | refine zSub ?_ | refine zAl (fun _ => ?_))
                        first | refine zR ?_ | refine zQ ?_
                        rw [hres]
                        rfl
                      · have n0 : decide (nu < 0) = false := decide_eq_false cn0
                        have n0n : (!decide (nu < 0)) = true := by rw [n0]; rfl
                        by_cases cn2 : nu > 200
                        · have n2 : decide (nu > 200) = true := decide_eq_true cn2
                          have n2n : (!decide (nu > 200)) = false := by rw [n2]; rfl
                          have hres : chkD d = 1 := by
                            rw [hinv, hd]
                            exact chk_arg (badP_no ck1 ck6 (by first | exact .inl ce1 | exact .inr ces) (by first | exact .inl ce5 | exact .inr cen) cz (hnl ())) (by simp [argP, cn2])
                          clear hinv hd hp
                          try clear hb ha hdl
                          try clear hnl
                          repeat (first | refine gG ?_ | refine zN1 (fun hlen => ?_) | refine zN2 (fun hlen => ?_) | refine zSub ?_ | refine zAl (fun _ => ?_))
                          first | refine zR ?_ | refine zQ ?_
                          rw [hres]
                          rfl
                        · have n2 : decide (nu > 200) = false := decide_eq_false cn2
                          have n2n : (!decide (nu > 200)) = true := by rw [n2]; rfl
                          have hb : badP ⟨ka, nu, s⟩ = false := badP_no ck1 ck6 (by first | exact .inl ce1 | exact .inr ces) (by first | exact .inl ce5 | exact .inr cen) cz (hnl ())
                          have ha : argP ⟨ka, nu, s⟩ = false := by simp only [argP, n0, Bool.false_or, decide_eq_false_iff_not]; omega
                          have hdl : dl ⟨ka, nu, s⟩ = 0 := by simp [dl, ce5, ce6]
                          have r1 : decide (k < 0) = false := decide_eq_false (by omega)
                          have r2 : decide (k > 200) = false := decide_eq_false (by omega)
                          have hnext : chkD d = chk (k) (d.drop (i + 1)) := by
                            rw [hinv, hd, chk_next hb ha (by rw [hdl]; omega), hdl]
                            rw [Int.add_zero]
                          clear hinv hd hp hb ha hdl hnl
                          try clear k1
                          try clear k1n
                          try clear k6
                          try clear k6n
                          try clear e1
                          try clear e1n
                          try clear es
                          try clear esn
                          try clear en
                          try clear enn
                          try clear e5n
                          try clear e6n
                          try clear zn
                          try clear n0n
                          try clear n2n
                          try clear ck1
                          try clear ck6
                          try clear ce1
                          try clear ces
                          try clear ce5
                          try clear cen
                          try clear ce6
                          try clear cz
                          try clear cn0
                          try clear cn2
                          try clear hop
                          repeat (first | refine gG ?_ | refine zN1 (fun hlen => ?_) | refine zN2 (fun hlen => ?_) | refine zSub ?_ | refine zAl (fun _ => ?_))
                          exact ⟨(i + 1, k), ⟨hi', by dsimp only; omega, by dsimp only; omega, hnext⟩, by dsimp only; omega, x_wkd 0 ⟨rfl, rfl, trivial⟩ rfl (by repeat (first | exact ag_refl | refine ag_upd rfl ?_ | refine ag_at rfl rfl ?_))⟩
              · have en : decide (nu = 0) = false := decide_eq_false cen
                have enn : (!decide (nu = 0)) = true := by rw [en]; rfl
                have hres : chkD d = 3 := by
                  rw [hinv, hd]
                  exact chk_bad (by simp [badP, ce5, cen])
                clear hinv hd hp
                try clear hb ha hdl
                try clear hnl
                repeat (first | refine gG ?_ | refine zN1 (fun hlen => ?_) | refine zN2 (fun hlen => ?_) | refine zSub ?_ | refine zAl (fun _ => ?_))
                first | refine zR ?_ | refine zQ ?_
                rw [hres]
                rfl
          · have es : decide (s = ⟨#[]⟩) = false := decide_eq_false ces
            have esn : (!decide (s = ⟨#[]⟩)) = true := by rw [es]; rfl
            have hres : chkD d = 3 := by
              rw [hinv, hd]
              exact chk_bad (by simp [badP, ce1, ces])
            clear hinv hd hp
            try clear hb ha hdl
            try clear hnl
            repeat (first | refine gG ?_ | refine zN1 (fun hlen => ?_) | refine zN2 (fun hlen => ?_) | refine zSub ?_ | refine zAl (fun _ => ?_))
            first | refine zR ?_ | refine zQ ?_
            rw [hres]
            rfl
  · have hi' : i = d.length := by
      have : ¬ i < d.length := by simpa using h
      omega
    subst hi'
    rw [List.drop_length, chk] at hinv
    clear h
    by_cases hk : k = 0
    · rw [if_pos hk] at hinv
      have q1 : (!decide (k = 0)) = false := by rw [decide_eq_true hk]; rfl
      have q2 : decide (k > 0) = false := decide_eq_false (by omega)
      repeat (first | refine gG ?_ | refine zN1 (fun hlen => ?_) | refine zN2 (fun hlen => ?_) | refine zSub ?_ | refine zAl (fun _ => ?_))
      first | refine zR ?_ | refine zQ ?_
      rw [hinv]
      rfl
    · rw [if_neg hk] at hinv
      have q1 : (!decide (k = 0)) = true := by rw [decide_eq_false hk]; rfl
      have q2 : decide (k > 0) = true := decide_eq_true (by omega)
      repeat (first | refine gG ?_ | refine zN1 (fun hlen => ?_) | refine zN2 (fun hlen => ?_) | refine zSub ?_ | refine zAl (fun _ => ?_))
      first | refine zR ?_ | refine zQ ?_
      rw [hinv]
      rfl
end Go.Proofs.Ytgjfiedepfjdcaa
