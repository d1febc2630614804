/-
  The walks of wire.Some over values, of the reader's value, of value.read and value.Read.
-/
import Derived.Test.YthgackidonocpaaTrd
namespace Go.Proofs.Ythgackidonocpaa
open Go.RowKit

theorem rByte_len (s : RS) : (rByte s).2.l.length ≤ s.l.length := by
  obtain ⟨l, b, d⟩ := s
  cases l <;> simp [rByte, RS.fail]
theorem rUns_len : ∀ (k i u : Nat) (s : RS), (rUns k i u s).2.l.length ≤ s.l.length
  | 0, _, _, s => Nat.le_refl _
  | k + 1, i, u, s => by
    have h := rByte_len s
    rw [rUns]
    split
    · exact h
    · split
      · exact h
      · exact Nat.le_trans (rUns_len k _ _ _) h
theorem rNat_len (s : RS) : (rNat s).2.l.length ≤ s.l.length := by
  have h : (rU s).2.l.length ≤ s.l.length := rUns_len _ _ _ s
  unfold rNat
  split <;> exact h
theorem rInt_len (s : RS) : (rInt s).2.l.length ≤ s.l.length := rUns_len _ _ _ s
theorem rInt_dep (s : RS) : (rInt s).2.dep = s.dep := rUns_dep _ _ _ s
theorem rCount_len (s : RS) : (rCount s).2.l.length ≤ s.l.length := by
  have h := rNat_len s
  unfold rCount
  split <;> exact h
theorem rText_len (s : RS) : (rText s).2.l.length ≤ s.l.length := by
  have h := rCount_len s
  simp only [rText, List.length_drop]
  omega
/-- it takes bytes off, and comes back from where it went -/
structure Fair {α : Type} (g : RS → α × RS) : Prop where
  len : ∀ s, (g s).2.l.length ≤ s.l.length
  dep : ∀ s, (g s).2.bad = false → (g s).2.dep = s.dep
  up : ∀ s, s.dep ≤ (g s).2.dep
  top : ∀ s, (g s).2.dep ≤ s.dep + 1
theorem rLoop_fair {α : Type} {g : RS → α × RS} (hg : Fair g) : ∀ n, Fair (rLoop g n)
  | 0 => ⟨fun _ => Nat.le_refl _, fun _ _ => rfl, fun _ => Nat.le_refl _, fun _ => Nat.le_succ _⟩
  | n + 1 => by
    have ih := rLoop_fair hg n
    refine ⟨fun s => ?_, fun s h => ?_, fun s => ?_, fun s => ?_⟩
    · rw [rLoop]
      split
      · exact Nat.le_refl _
      · exact Nat.le_trans (ih.len _) (hg.len s)
    · rw [rLoop] at h ⊢
      split
      · rfl
      · rename_i hc
        rw [if_neg hc] at h
        dsimp only at h ⊢
        rw [ih.dep _ h]
        refine hg.dep s ?_
        cases hb : (g s).2.bad with
        | false => rfl
        | true =>
          cases n with
          | zero => simp only [rLoop] at h; rw [hb] at h; cases h
          | succ n => rw [rLoop, if_pos hb] at h; dsimp only at h; rw [hb] at h; cases h
    · rw [rLoop]
      split
      · exact Nat.le_refl _
      · exact Nat.le_trans (hg.up s) (ih.up _)
    · rw [rLoop]
      split
      · exact Nat.le_succ _
      · dsimp only
        cases hb : (g s).2.bad with
        | false => have h1 := hg.dep s hb; have h2 := ih.top (g s).2; omega
        | true =>
          have h1 := hg.top s
          cases n with
          | zero => simp only [rLoop]; exact h1
          | succ n => rw [rLoop, if_pos hb]; exact h1
theorem rSome_fair {α : Type} {g : RS → α × RS} (hg : Fair g) : Fair (rSome g) :=
  ⟨fun s => Nat.le_trans ((rLoop_fair hg _).len _) (rCount_len s), fun s h => ((rLoop_fair hg _).dep _ h).trans (rCount_dep s), fun s => by have := (rLoop_fair hg (rCount s).1).up (rCount s).2; rw [rCount_dep] at this; exact this, fun s => by have := (rLoop_fair hg (rCount s).1).top (rCount s).2; rw [rCount_dep] at this; exact this⟩
theorem rVal_succ (f : Nat) (s : RS) (h : ¬ 40 < s.dep + 1) : (rVal (f + 1) s).2 = (rSome (rVal f) (rText (rInt (rByte s.up).2).2).2).2.down := by
  rw [rVal, if_neg h]
theorem rVal_stop (f : Nat) (s : RS) (h : 40 < s.dep + 1) : rVal (f + 1) s = (V.zero, s.up.fail) := by
  rw [rVal, if_pos h]
theorem rVal_fair : ∀ f, Fair (rVal f)
  | 0 => ⟨fun _ => Nat.le_refl _, fun _ h => (by cases h), fun _ => Nat.le_succ _, fun _ => Nat.le_refl _⟩
  | f + 1 => by
    have ih := rSome_fair (rVal_fair f)
    refine ⟨fun s => ?_, fun s h => ?_, fun s => ?_, fun s => ?_⟩
    · by_cases h : 40 < s.dep + 1
      · rw [rVal_stop f s h]; exact Nat.le_refl _
      · rw [rVal_succ f s h]
        have h1 := ih.len (rText (rInt (rByte s.up).2).2).2
        have h2 := rText_len (rInt (rByte s.up).2).2
        have h3 := rInt_len (rByte s.up).2
        have h4 := rByte_len s.up
        have h5 : s.up.l = s.l := rfl
        rw [h5] at h4
        simp only [RS.down]
        omega
    · have := ((rVal_ok (f + 1)) s _ _ rfl h).1
      exact (congrArg RS.dep this).symm
    · by_cases h : 40 < s.dep + 1
      · rw [rVal_stop f s h]; exact Nat.le_succ _
      · rw [rVal_succ f s h]
        have h1 := ih.up (rText (rInt (rByte s.up).2).2).2
        rw [rText_dep, rInt_dep, rByte_dep] at h1
        have h5 : s.up.dep = s.dep + 1 := rfl
        rw [h5] at h1
        simp only [RS.down]
        omega
    · by_cases h : 40 < s.dep + 1
      · rw [rVal_stop f s h]; exact Nat.le_refl _
      · rw [rVal_succ f s h]
        have h1 := ih.top (rText (rInt (rByte s.up).2).2).2
        rw [rText_dep, rInt_dep, rByte_dep] at h1
        have h5 : s.up.dep = s.dep + 1 := rfl
        rw [h5] at h1
        simp only [RS.down]
        omega

set_option maxRecDepth 100000 in
set_option maxHeartbeats 2000000 in
theorem someV_ag (b D : Nat) (g : RS → V × RS) (hfg : Fair g) (f : FuncId) (hg : ∀ s : RS, s.dep = D → s.l.length ≤ 1099511627776 → AG Try.prog f [.ptr 0 b 0] [rdB b s] (Gives b (g s).1.t (g s).2))
    (s : RS) (hs : s.dep = D) (hl : s.l.length ≤ 1099511627776) :
    AG Try.prog 164 [.ptr 0 b 0, .own 0 (bfn f b 0)] [rdB b s] (Gives b (V.row (rSome g s).1) (rSome g s).2) := by
  have hc := countR_ag b s
  have hcl := rCount_len s
  have hcn := rCount_le s
  have hcd := rCount_dep s
  unfold rSome
  generalize rCount s = p at *
  obtain ⟨n0, s0⟩ := p
  dsimp only at hc hcl hcn hcd ⊢
  refine ag_enter 1 tok Try.func164 Try.ntmps164 Try.results164 rfl (by kernel_rfl) rfl fun F => ?_
  repeat (first | refine zNil ?_ | refine zOp ?_ | refine zOpn ?_ | refine zNo ?_ | refine zNon ?_ | refine zUn ?_ | refine zUnn ?_ | refine zYes ?_ | refine zYesn ?_ | (refine zkL ?_; first | refine zL1 ?_ | refine zL2 ?_ | refine zL3 ?_ | refine zLp ?_) | refine zM ?_ | (refine zkF ?_; first | refine zF1 ?_ | refine zF2 ?_ | refine zF3 ?_) | refine zA ?_ | (refine zkB ?_; first | refine zC5 ?_ | refine zC6 ?_ | refine zC1 ?_ | refine zC2 ?_ | refine zC3 ?_ | refine zC4 ?_ | refine zS5 ?_ | refine zS6 ?_ | refine zS1 ?_ | refine zS2 ?_ | refine zS3 ?_ | refine zS4 ?_ | refine zInc ?_ | refine zQ1 ?_ | refine zQ2 ?_ | refine zQ3 ?_ | refine zQ4 ?_ | refine zQ5 ?_ | refine zQ6 ?_) | (refine zkI ?_; first | refine zN1 (fun hlen => ?_) | refine zN2 (fun hlen => ?_) | refine zN3 ?_ | refine zN4 ?_ | refine zAp (fun _ => ?_)) | refine zS ?_ | refine zAl (fun _ => ?_) | refine zBx (fun _ => ?_) | refine zPt ?_ | refine zPf ?_ | refine zE ?_ | refine zEA ?_ | refine zNot ?_ | refine zBd ?_ | refine zBs ?_ | refine zFn ?_ | refine zK1 ?_ | refine zK2 ?_ | refine ac_seq ?_ | refine ac_block ?_ | refine ac_region ?_ | refine ac_skip ?_ | refine ac_exit ?_ | refine ac_ret ?_ | refine zT ?_ | refine zF ?_)
  refine zCallG [0] hc ?_
  rintro _ _ ⟨rfl, rfl⟩
  refine ⟨_, _, re_refl, rfl, rfl, ?_⟩
  repeat (first | refine zNil ?_ | refine zOp ?_ | refine zOpn ?_ | refine zNo ?_ | refine zNon ?_ | refine zUn ?_ | refine zUnn ?_ | refine zYes ?_ | refine zYesn ?_ | (refine zkL ?_; first | refine zL1 ?_ | refine zL2 ?_ | refine zL3 ?_ | refine zLp ?_) | refine zM ?_ | (refine zkF ?_; first | refine zF1 ?_ | refine zF2 ?_ | refine zF3 ?_) | refine zA ?_ | (refine zkB ?_; first | refine zC5 ?_ | refine zC6 ?_ | refine zC1 ?_ | refine zC2 ?_ | refine zC3 ?_ | refine zC4 ?_ | refine zS5 ?_ | refine zS6 ?_ | refine zS1 ?_ | refine zS2 ?_ | refine zS3 ?_ | refine zS4 ?_ | refine zInc ?_ | refine zQ1 ?_ | refine zQ2 ?_ | refine zQ3 ?_ | refine zQ4 ?_ | refine zQ5 ?_ | refine zQ6 ?_) | (refine zkI ?_; first | refine zN1 (fun hlen => ?_) | refine zN2 (fun hlen => ?_) | refine zN3 ?_ | refine zN4 ?_ | refine zAp (fun _ => ?_)) | refine zS ?_ | refine zAl (fun _ => ?_) | refine zBx (fun _ => ?_) | refine zPt ?_ | refine zPf ?_ | refine zE ?_ | refine zEA ?_ | refine zNot ?_ | refine zBd ?_ | refine zBs ?_ | refine zFn ?_ | refine zK1 ?_ | refine zK2 ?_ | refine ac_seq ?_ | refine ac_block ?_ | refine ac_region ?_ | refine ac_skip ?_ | refine ac_exit ?_ | refine ac_ret ?_ | refine zT ?_ | refine zF ?_)
  refine x_own 5 24 4 rfl rfl rfl rfl rfl ?_
  refine x_loop [5, 6, 9, 10, 11, 12, 13, 14, 15, 16, 17, 18, 19, 20, 21, 22, 23, 24] (fun y : Nat × List V × Value × RS => [(6, .c (.lit (.int .i64 (y.1 : Int)))), (5, .own 1 y.2.2.1)]) (fun y => [rdB b y.2.2.2, .row y.2.2.1 24 4 y.2.1.length (V.all y.2.1)])
    (fun y => (y.2.2.2.bad = false → y.2.2.2.dep = D) ∧ (y.2.1 ++ (rLoop g y.1 y.2.2.2).1, (rLoop g y.1 y.2.2.2).2) = rLoop g n0 s0 ∧ y.2.1.length + y.1 ≤ 1099511627776 ∧ y.2.2.2.l.length ≤ 1099511627776) (fun y => y.1) (n0, [], .slice none 0 0, s0) ⟨fun _ => hcd.trans hs, by simp, by simp only [List.length_nil]; omega, by simp only; omega⟩ ⟨rfl, rfl, trivial⟩ rfl ?_
  rintro ⟨n, out, v, s'⟩ ⟨hd, hinv, hlen, hsl⟩
  dsimp only at hd hinv hlen hsl ⊢
  cases n with
  | zero =>
    have d1 : decide ((0 : Int) < ((0 : Nat) : Int)) = false := rfl
    simp only [rLoop, List.append_nil] at hinv
    refine x_fz 5 rfl rfl rfl rfl ?_
    repeat (first | refine zNil ?_ | refine zOp ?_ | refine zOpn ?_ | refine zNo ?_ | refine zNon ?_ | refine zUn ?_ | refine zUnn ?_ | refine zYes ?_ | refine zYesn ?_ | (refine zkL ?_; first | refine zL1 ?_ | refine zL2 ?_ | refine zL3 ?_ | refine zLp ?_) | refine zM ?_ | (refine zkF ?_; first | refine zF1 ?_ | refine zF2 ?_ | refine zF3 ?_) | refine zA ?_ | (refine zkB ?_; first | refine zC5 ?_ | refine zC6 ?_ | refine zC1 ?_ | refine zC2 ?_ | refine zC3 ?_ | refine zC4 ?_ | refine zS5 ?_ | refine zS6 ?_ | refine zS1 ?_ | refine zS2 ?_ | refine zS3 ?_ | refine zS4 ?_ | refine zInc ?_ | refine zQ1 ?_ | refine zQ2 ?_ | refine zQ3 ?_ | refine zQ4 ?_ | refine zQ5 ?_ | refine zQ6 ?_) | (refine zkI ?_; first | refine zN1 (fun hlen => ?_) | refine zN2 (fun hlen => ?_) | refine zN3 ?_ | refine zN4 ?_ | refine zAp (fun _ => ?_)) | refine zS ?_ | refine zAl (fun _ => ?_) | refine zBx (fun _ => ?_) | refine zPt ?_ | refine zPf ?_ | refine zE ?_ | refine zEA ?_ | refine zNot ?_ | refine zBd ?_ | refine zBs ?_ | refine zFn ?_ | refine zK1 ?_ | refine zK2 ?_ | refine ac_seq ?_ | refine ac_block ?_ | refine ac_region ?_ | refine ac_skip ?_ | refine ac_exit ?_ | refine ac_ret ?_ | refine zT ?_ | refine zF ?_)
    refine zG ?_
    rw [← hinv]
    exact ⟨rfl, rfl⟩
  | succ n =>
    have d1 : decide ((0 : Int) < ((n + 1 : Nat) : Int)) = true := decide_eq_true (by omega)
    obtain ⟨l1, bad1, dp1⟩ := s'
    cases bad1
    · have hdd := hd rfl
      have hca := hg ⟨l1, false, dp1⟩ hdd hsl
      have hgl := hfg.len ⟨l1, false, dp1⟩
      have hgd := hfg.dep ⟨l1, false, dp1⟩
      simp only [rLoop, Bool.false_eq_true, if_false] at hinv
      dsimp only at hdd hgl hgd
      generalize g ⟨l1, false, dp1⟩ = q at *
      obtain ⟨⟨kv, nv, tv, lv⟩, s2⟩ := q
      dsimp only at hinv hca hgl hgd
      repeat (first | refine zNil ?_ | refine zOp ?_ | refine zOpn ?_ | refine zNo ?_ | refine zNon ?_ | refine zUn ?_ | refine zUnn ?_ | refine zYes ?_ | refine zYesn ?_ | (refine zkL ?_; first | refine zL1 ?_ | refine zL2 ?_ | refine zL3 ?_ | refine zLp ?_) | refine zM ?_ | (refine zkF ?_; first | refine zF1 ?_ | refine zF2 ?_ | refine zF3 ?_) | refine zA ?_ | (refine zkB ?_; first | refine zC5 ?_ | refine zC6 ?_ | refine zC1 ?_ | refine zC2 ?_ | refine zC3 ?_ | refine zC4 ?_ | refine zS5 ?_ | refine zS6 ?_ | refine zS1 ?_ | refine zS2 ?_ | refine zS3 ?_ | refine zS4 ?_ | refine zInc ?_ | refine zQ1 ?_ | refine zQ2 ?_ | refine zQ3 ?_ | refine zQ4 ?_ | refine zQ5 ?_ | refine zQ6 ?_) | (refine zkI ?_; first | refine zN1 (fun hlen => ?_) | refine zN2 (fun hlen => ?_) | refine zN3 ?_ | refine zN4 ?_ | refine zAp (fun _ => ?_)) | refine zS ?_ | refine zAl (fun _ => ?_) | refine zBx (fun _ => ?_) | refine zPt ?_ | refine zPf ?_ | refine zE ?_ | refine zEA ?_ | refine zNot ?_ | refine zBd ?_ | refine zBs ?_ | refine zFn ?_ | refine zK1 ?_ | refine zK2 ?_ | refine ac_seq ?_ | refine ac_block ?_ | refine ac_region ?_ | refine ac_skip ?_ | refine ac_exit ?_ | refine ac_ret ?_ | refine zT ?_ | refine zF ?_)
      refine zCallGb [0] hca ?_
      rintro _ _ ⟨rfl, rfl⟩
      refine ⟨_, _, re_refl, rfl, rfl, ?_⟩
      repeat (first | refine zNil ?_ | refine zOp ?_ | refine zOpn ?_ | refine zNo ?_ | refine zNon ?_ | refine zUn ?_ | refine zUnn ?_ | refine zYes ?_ | refine zYesn ?_ | (refine zkL ?_; first | refine zL1 ?_ | refine zL2 ?_ | refine zL3 ?_ | refine zLp ?_) | refine zM ?_ | (refine zkF ?_; first | refine zF1 ?_ | refine zF2 ?_ | refine zF3 ?_) | refine zA ?_ | (refine zkB ?_; first | refine zC5 ?_ | refine zC6 ?_ | refine zC1 ?_ | refine zC2 ?_ | refine zC3 ?_ | refine zC4 ?_ | refine zS5 ?_ | refine zS6 ?_ | refine zS1 ?_ | refine zS2 ?_ | refine zS3 ?_ | refine zS4 ?_ | refine zInc ?_ | refine zQ1 ?_ | refine zQ2 ?_ | refine zQ3 ?_ | refine zQ4 ?_ | refine zQ5 ?_ | refine zQ6 ?_) | (refine zkI ?_; first | refine zN1 (fun hlen => ?_) | refine zN2 (fun hlen => ?_) | refine zN3 ?_ | refine zN4 ?_ | refine zAp (fun _ => ?_)) | refine zS ?_ | refine zAl (fun _ => ?_) | refine zBx (fun _ => ?_) | refine zPt ?_ | refine zPf ?_ | refine zE ?_ | refine zEA ?_ | refine zNot ?_ | refine zBd ?_ | refine zBs ?_ | refine zFn ?_ | refine zK1 ?_ | refine zK2 ?_ | refine ac_seq ?_ | refine ac_block ?_ | refine ac_region ?_ | refine ac_skip ?_ | refine ac_exit ?_ | refine ac_ret ?_ | refine zT ?_ | refine zF ?_)
      refine lo_sub rfl rfl (r := (n : Int)) (by rw [IntWalk.i64_in _ (by omega)]; omega) ?_
      repeat (first | refine zNil ?_ | refine zOp ?_ | refine zOpn ?_ | refine zNo ?_ | refine zNon ?_ | refine zUn ?_ | refine zUnn ?_ | refine zYes ?_ | refine zYesn ?_ | (refine zkL ?_; first | refine zL1 ?_ | refine zL2 ?_ | refine zL3 ?_ | refine zLp ?_) | refine zM ?_ | (refine zkF ?_; first | refine zF1 ?_ | refine zF2 ?_ | refine zF3 ?_) | refine zA ?_ | (refine zkB ?_; first | refine zC5 ?_ | refine zC6 ?_ | refine zC1 ?_ | refine zC2 ?_ | refine zC3 ?_ | refine zC4 ?_ | refine zS5 ?_ | refine zS6 ?_ | refine zS1 ?_ | refine zS2 ?_ | refine zS3 ?_ | refine zS4 ?_ | refine zInc ?_ | refine zQ1 ?_ | refine zQ2 ?_ | refine zQ3 ?_ | refine zQ4 ?_ | refine zQ5 ?_ | refine zQ6 ?_) | (refine zkI ?_; first | refine zN1 (fun hlen => ?_) | refine zN2 (fun hlen => ?_) | refine zN3 ?_ | refine zN4 ?_ | refine zAp (fun _ => ?_)) | refine zS ?_ | refine zAl (fun _ => ?_) | refine zBx (fun _ => ?_) | refine zPt ?_ | refine zPf ?_ | refine zE ?_ | refine zEA ?_ | refine zNot ?_ | refine zBd ?_ | refine zBs ?_ | refine zFn ?_ | refine zK1 ?_ | refine zK2 ?_ | refine ac_seq ?_ | refine ac_block ?_ | refine ac_region ?_ | refine ac_skip ?_ | refine ac_exit ?_ | refine ac_ret ?_ | refine zT ?_ | refine zF ?_)
      exact ⟨(n, out ++ [.mk kv nv tv lv], _, s2), ⟨fun h => (hgd h).trans hdd, by simpa using hinv, by simp only [List.length_append, List.length_cons, List.length_nil]; omega, by simp only at hsl ⊢; omega⟩, by simp only; omega, x_wkd 2 ⟨rfl, rfl, trivial⟩ (by simp only [V.all_app, V.all_one, List.length_append, List.length_cons, List.length_nil]; rfl) (by repeat (first | exact ag_refl | refine ag_upd rfl ?_ | refine ag_at rfl rfl ?_))⟩
    · simp only [rLoop, if_true, List.append_nil] at hinv
      refine x_fz 5 rfl rfl rfl rfl ?_
      repeat (first | refine zNil ?_ | refine zOp ?_ | refine zOpn ?_ | refine zNo ?_ | refine zNon ?_ | refine zUn ?_ | refine zUnn ?_ | refine zYes ?_ | refine zYesn ?_ | (refine zkL ?_; first | refine zL1 ?_ | refine zL2 ?_ | refine zL3 ?_ | refine zLp ?_) | refine zM ?_ | (refine zkF ?_; first | refine zF1 ?_ | refine zF2 ?_ | refine zF3 ?_) | refine zA ?_ | (refine zkB ?_; first | refine zC5 ?_ | refine zC6 ?_ | refine zC1 ?_ | refine zC2 ?_ | refine zC3 ?_ | refine zC4 ?_ | refine zS5 ?_ | refine zS6 ?_ | refine zS1 ?_ | refine zS2 ?_ | refine zS3 ?_ | refine zS4 ?_ | refine zInc ?_ | refine zQ1 ?_ | refine zQ2 ?_ | refine zQ3 ?_ | refine zQ4 ?_ | refine zQ5 ?_ | refine zQ6 ?_) | (refine zkI ?_; first | refine zN1 (fun hlen => ?_) | refine zN2 (fun hlen => ?_) | refine zN3 ?_ | refine zN4 ?_ | refine zAp (fun _ => ?_)) | refine zS ?_ | refine zAl (fun _ => ?_) | refine zBx (fun _ => ?_) | refine zPt ?_ | refine zPf ?_ | refine zE ?_ | refine zEA ?_ | refine zNot ?_ | refine zBd ?_ | refine zBs ?_ | refine zFn ?_ | refine zK1 ?_ | refine zK2 ?_ | refine ac_seq ?_ | refine ac_block ?_ | refine ac_region ?_ | refine ac_skip ?_ | refine ac_exit ?_ | refine ac_ret ?_ | refine zT ?_ | refine zF ?_)
      refine zG ?_
      rw [← hinv]
      exact ⟨rfl, rfl⟩

end Go.Proofs.Ythgackidonocpaa
