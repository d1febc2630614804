/-
  Plain: the nodes of a value in a list, level by level. The walk of slices.Contains over bytes.
-/
import Derived.Test.YthgackidonocpaaTrt5
namespace Go.Proofs.Ythgackidonocpaa
open Go.RowKit

abbrev Vd := V × Nat
def atTs (x : Vd) : List T := x.1.ts ++ [.lit (.int .i64 (x.2 : Int))]
theorem atTs_len (x : Vd) : (atTs x).length = 5 := by simp [atTs, V.ts_len]
def kids (x : Vd) : List Vd := x.1.args.map fun a => (a, x.2 + 1)
def vsz (l : List Vd) : Nat := V.sizes (l.map (·.1))
theorem vsz_app (l r : List Vd) : vsz (l ++ r) = vsz l + vsz r := by simp [vsz, V.sizes_app]
theorem vsz_kids (x : Vd) : vsz (kids x) + 1 = x.1.size := by
  obtain ⟨⟨k, n, t, l⟩, d⟩ := x
  simp [vsz, kids, V.args, V.size, Function.comp_def]
theorem vsz_len (l : List Vd) : l.length ≤ vsz l := by
  have := V.len_sizes (l.map (·.1))
  simpa [vsz] using this
/-- the first i of the list are done, the rest stand for what is below them too -/
structure Lev (v : V) (all : List Vd) (i : Nat) : Prop where
  le : i ≤ all.length
  size : i + vsz (all.drop i) = v.size
  deep : ∀ x ∈ all, x.2 ≤ all.length
  sub : ∀ x ∈ all, x.1.size ≤ v.size
  every : ∀ p : V → Nat → Bool, ((all.take i).all (fun x => p x.1 x.2) && (all.drop i).all (fun x => x.1.every p x.2)) = v.every p 1
theorem Lev.zero (v : V) : Lev v [(v, 1)] 0 := ⟨by simp, by simp [vsz, V.sizes], by simp, by simp, fun p => by simp⟩
theorem Lev.step {v : V} {all : List Vd} {i : Nat} {x : Vd} (h : Lev v all i) (hx : all[i]? = some x) : Lev v (all ++ kids x) (i + 1) := by
  obtain ⟨hi, rfl⟩ := List.getElem?_eq_some_iff.1 hx
  have hd := List.drop_eq_getElem_cons hi
  have hdrop : (all ++ kids all[i]).drop (i + 1) = all.drop (i + 1) ++ kids all[i] := by rw [List.drop_append_of_le_length (by omega)]
  have htake : (all ++ kids all[i]).take (i + 1) = all.take i ++ [all[i]] := by rw [List.take_append_of_le_length (by omega), List.take_succ_eq_append_getElem hi]
  refine ⟨by simp; omega, ?_, ?_, ?_, fun p => ?_⟩
  · have h1 := h.size
    have h2 := vsz_kids all[i]
    rw [hd] at h1
    rw [hdrop, vsz_app]
    have h3 : vsz (all[i] :: all.drop (i + 1)) = all[i].1.size + vsz (all.drop (i + 1)) := by simp only [vsz, List.map_cons, V.sizes]
    omega
  · intro y hy
    rcases List.mem_append.1 hy with hy | hy
    · have := h.deep y hy; simp; omega
    · simp only [kids, List.mem_map] at hy
      obtain ⟨a, ha, rfl⟩ := hy
      have h1 := h.deep all[i] (List.getElem_mem hi)
      have h2 : 0 < all[i].1.args.length := List.length_pos_of_mem ha
      simp [kids]; omega
  · intro y hy
    rcases List.mem_append.1 hy with hy | hy
    · exact h.sub y hy
    · simp only [kids, List.mem_map] at hy
      obtain ⟨a, ha, rfl⟩ := hy
      have h1 := h.sub all[i] (List.getElem_mem hi)
      have h2 : a.size ≤ all[i].1.size := by
        generalize all[i] = z at ha h1 ⊢
        obtain ⟨⟨k, n, t, l⟩, d⟩ := z
        have := V.size_mem ha
        simp only [V.args] at this
        simp only [V.size]
        omega
      exact Nat.le_trans h2 h1
  · rw [← h.every p, hdrop, htake, hd]
    have h4 : all[i].1.every p all[i].2 = (p all[i].1 all[i].2 && (kids all[i]).all fun x => x.1.every p x.2) := by
      generalize all[i] = z
      obtain ⟨⟨k, n, t, l⟩, d⟩ := z
      simp only [V.every, V.everys_eq, kids, V.args, List.all_map]
      rfl
    simp only [List.all_append, List.all_cons, List.all_nil, Bool.and_true, h4]
    cases (all.take i).all fun x => p x.1 x.2 <;> cases p all[i].1 all[i].2 <;> cases (all.drop (i + 1)).all fun x => x.1.every p x.2 <;> cases (kids all[i]).all fun x => x.1.every p x.2 <;> rfl
theorem Lev.len {v : V} {all : List Vd} {i : Nat} (h : Lev v all i) : all.length ≤ v.size := by
  have h1 := h.size
  have h2 := vsz_len (all.drop i)
  rw [List.length_drop] at h2
  have := h.le
  omega
theorem Lev.done {v : V} {all : List Vd} (h : Lev v all all.length) : all.length = v.size ∧ ∀ p : V → Nat → Bool, (all.all fun x => p x.1 x.2) = v.every p 1 := by
  refine ⟨?_, fun p => ?_⟩
  · have := h.size
    rw [List.drop_length] at this
    simpa [vsz, V.sizes] using this
  · have := h.every p
    rw [List.drop_length, List.take_length] at this
    simpa using this

theorem byt_at {l : List UInt8} {k : Nat} {a : UInt8} (h : l[k]? = some a) : (byts l)[k * 1]? = some (bytT a) := by simp [byts, h]
theorem u8_eq (a b : UInt8) : decide ((a.toNat : Int) = (b.toNat : Int)) = decide (a = b) := by
  by_cases h : a = b
  · simp [h]
  · rw [decide_eq_false h, decide_eq_false]
    intro e
    exact h (UInt8.toNat_inj.1 (by omega))

set_option maxRecDepth 100000 in
set_option maxHeartbeats 1000000 in
theorem indexB_af (c : UInt8) (l : List UInt8) : AF Try.prog 159 [bytRow l, bytT c] (· = .lit (.int .i64 (idxI (fun b => decide (c = b)) l))) := by
  refine af_enter tok Try.func159 Try.ntmps159 Try.results159 rfl (by kernel_rfl) rfl rfl fun F hX => ?_
  repeat (first | refine zNil ?_ | refine zOp ?_ | refine zOpn ?_ | refine zNo ?_ | refine zNon ?_ | refine zUn ?_ | refine zUnn ?_ | refine zYes ?_ | refine zYesn ?_ | (refine zkL ?_; first | refine zL1 ?_ | refine zL2 ?_ | refine zL3 ?_ | refine zLp ?_) | refine zM ?_ | (refine zkF ?_; first | refine zF1 ?_ | refine zF2 ?_ | refine zF3 ?_) | refine zA ?_ | (refine zkB ?_; first | refine zC5 ?_ | refine zC6 ?_ | refine zC1 ?_ | refine zC2 ?_ | refine zC3 ?_ | refine zC4 ?_ | refine zS5 ?_ | refine zS6 ?_ | refine zS1 ?_ | refine zS2 ?_ | refine zS3 ?_ | refine zS4 ?_ | refine zInc ?_ | refine zQ1 ?_ | refine zQ2 ?_ | refine zQ3 ?_ | refine zQ4 ?_ | refine zQ5 ?_ | refine zQ6 ?_) | (refine zkI ?_; first | refine zN1 (fun hlen => ?_) | refine zN2 (fun hlen => ?_) | refine zN3 ?_ | refine zN4 ?_ | refine zAp (fun _ => ?_)) | refine zS ?_ | refine zAl (fun _ => ?_) | refine zBx (fun _ => ?_) | refine zPt ?_ | refine zPf ?_ | refine zE ?_ | refine zEA ?_ | refine zNot ?_ | refine zBd ?_ | refine zBs ?_ | refine zFn ?_ | refine zK1 ?_ | refine zK2 ?_ | refine ac_seq ?_ | refine ac_block ?_ | refine ac_region ?_ | refine ac_skip ?_ | refine ac_exit ?_ | refine ac_ret ?_ | refine zT ?_ | refine zF ?_)
  refine x_loop [4, 5, 8, 9, 10, 11, 12, 13, 14, 15, 16, 17, 18] (fun k : Nat => [(8, .c (.lit (.int .i64 k)))]) (fun _ => []) (fun k => k ≤ l.length ∧ idxAt (fun b => decide (c = b)) l k) (fun k => l.length - k) 0 ⟨Nat.zero_le _, idxAt_zero _ l⟩ ⟨rfl, trivial⟩ rfl fun k hk => ?_
  repeat (first | refine zNil ?_ | refine zOp ?_ | refine zOpn ?_ | refine zNo ?_ | refine zNon ?_ | refine zUn ?_ | refine zUnn ?_ | refine zYes ?_ | refine zYesn ?_ | (refine zkL ?_; first | refine zL1 ?_ | refine zL2 ?_ | refine zL3 ?_ | refine zLp ?_) | refine zM ?_ | (refine zkF ?_; first | refine zF1 ?_ | refine zF2 ?_ | refine zF3 ?_) | refine zA ?_ | (refine zkB ?_; first | refine zC5 ?_ | refine zC6 ?_ | refine zC1 ?_ | refine zC2 ?_ | refine zC3 ?_ | refine zC4 ?_ | refine zS5 ?_ | refine zS6 ?_ | refine zS1 ?_ | refine zS2 ?_ | refine zS3 ?_ | refine zS4 ?_ | refine zInc ?_ | refine zQ1 ?_ | refine zQ2 ?_ | refine zQ3 ?_ | refine zQ4 ?_ | refine zQ5 ?_ | refine zQ6 ?_) | (refine zkI ?_; first | refine zN1 (fun hlen => ?_) | refine zN2 (fun hlen => ?_) | refine zN3 ?_ | refine zN4 ?_ | refine zAp (fun _ => ?_)) | refine zS ?_ | refine zAl (fun _ => ?_) | refine zBx (fun _ => ?_) | refine zPt ?_ | refine zPf ?_ | refine zE ?_ | refine zEA ?_ | refine zNot ?_ | refine zBd ?_ | refine zBs ?_ | refine zFn ?_ | refine zK1 ?_ | refine zK2 ?_ | refine ac_seq ?_ | refine ac_block ?_ | refine ac_region ?_ | refine ac_skip ?_ | refine ac_exit ?_ | refine ac_ret ?_ | refine zT ?_ | refine zF ?_)
  refine x_cond rfl (fun h => ?_) (fun h => ?_)
  · have hk' : k < l.length := by simpa using h
    obtain ⟨a, ha⟩ := nth hk'
    repeat (first | refine zNil ?_ | refine zOp ?_ | refine zOpn ?_ | refine zNo ?_ | refine zNon ?_ | refine zUn ?_ | refine zUnn ?_ | refine zYes ?_ | refine zYesn ?_ | (refine zkL ?_; first | refine zL1 ?_ | refine zL2 ?_ | refine zL3 ?_ | refine zLp ?_) | refine zM ?_ | (refine zkF ?_; first | refine zF1 ?_ | refine zF2 ?_ | refine zF3 ?_) | refine zA ?_ | (refine zkB ?_; first | refine zC5 ?_ | refine zC6 ?_ | refine zC1 ?_ | refine zC2 ?_ | refine zC3 ?_ | refine zC4 ?_ | refine zS5 ?_ | refine zS6 ?_ | refine zS1 ?_ | refine zS2 ?_ | refine zS3 ?_ | refine zS4 ?_ | refine zInc ?_ | refine zQ1 ?_ | refine zQ2 ?_ | refine zQ3 ?_ | refine zQ4 ?_ | refine zQ5 ?_ | refine zQ6 ?_) | (refine zkI ?_; first | refine zN1 (fun hlen => ?_) | refine zN2 (fun hlen => ?_) | refine zN3 ?_ | refine zN4 ?_ | refine zAp (fun _ => ?_)) | refine zS ?_ | refine zAl (fun _ => ?_) | refine zBx (fun _ => ?_) | refine zPt ?_ | refine zPf ?_ | refine zE ?_ | refine zEA ?_ | refine zNot ?_ | refine zBd ?_ | refine zBs ?_ | refine zFn ?_ | refine zK1 ?_ | refine zK2 ?_ | refine ac_seq ?_ | refine ac_block ?_ | refine ac_region ?_ | refine ac_skip ?_ | refine ac_exit ?_ | refine ac_ret ?_ | refine zT ?_ | refine zF ?_)
    refine zIx k hk' ?_
    repeat (first | refine zNil ?_ | refine zOp ?_ | refine zOpn ?_ | refine zNo ?_ | refine zNon ?_ | refine zUn ?_ | refine zUnn ?_ | refine zYes ?_ | refine zYesn ?_ | (refine zkL ?_; first | refine zL1 ?_ | refine zL2 ?_ | refine zL3 ?_ | refine zLp ?_) | refine zM ?_ | (refine zkF ?_; first | refine zF1 ?_ | refine zF2 ?_ | refine zF3 ?_) | refine zA ?_ | (refine zkB ?_; first | refine zC5 ?_ | refine zC6 ?_ | refine zC1 ?_ | refine zC2 ?_ | refine zC3 ?_ | refine zC4 ?_ | refine zS5 ?_ | refine zS6 ?_ | refine zS1 ?_ | refine zS2 ?_ | refine zS3 ?_ | refine zS4 ?_ | refine zInc ?_ | refine zQ1 ?_ | refine zQ2 ?_ | refine zQ3 ?_ | refine zQ4 ?_ | refine zQ5 ?_ | refine zQ6 ?_) | (refine zkI ?_; first | refine zN1 (fun hlen => ?_) | refine zN2 (fun hlen => ?_) | refine zN3 ?_ | refine zN4 ?_ | refine zAp (fun _ => ?_)) | refine zS ?_ | refine zAl (fun _ => ?_) | refine zBx (fun _ => ?_) | refine zPt ?_ | refine zPf ?_ | refine zE ?_ | refine zEA ?_ | refine zNot ?_ | refine zBd ?_ | refine zBs ?_ | refine zFn ?_ | refine zK1 ?_ | refine zK2 ?_ | refine ac_seq ?_ | refine ac_block ?_ | refine ac_region ?_ | refine ac_skip ?_ | refine ac_exit ?_ | refine ac_ret ?_ | refine zT ?_ | refine zF ?_)
    refine zEl1 (byt_at ha) ?_
    cases hq : decide (c = a)
    · have hq' : decide ((c.toNat : Int) = (a.toNat : Int)) = false := by rw [u8_eq]; exact hq
      repeat (first | refine zNil ?_ | refine zOp ?_ | refine zOpn ?_ | refine zNo ?_ | refine zNon ?_ | refine zUn ?_ | refine zUnn ?_ | refine zYes ?_ | refine zYesn ?_ | (refine zkL ?_; first | refine zL1 ?_ | refine zL2 ?_ | refine zL3 ?_ | refine zLp ?_) | refine zM ?_ | (refine zkF ?_; first | refine zF1 ?_ | refine zF2 ?_ | refine zF3 ?_) | refine zA ?_ | (refine zkB ?_; first | refine zC5 ?_ | refine zC6 ?_ | refine zC1 ?_ | refine zC2 ?_ | refine zC3 ?_ | refine zC4 ?_ | refine zS5 ?_ | refine zS6 ?_ | refine zS1 ?_ | refine zS2 ?_ | refine zS3 ?_ | refine zS4 ?_ | refine zInc ?_ | refine zQ1 ?_ | refine zQ2 ?_ | refine zQ3 ?_ | refine zQ4 ?_ | refine zQ5 ?_ | refine zQ6 ?_) | (refine zkI ?_; first | refine zN1 (fun hlen => ?_) | refine zN2 (fun hlen => ?_) | refine zN3 ?_ | refine zN4 ?_ | refine zAp (fun _ => ?_)) | refine zS ?_ | refine zAl (fun _ => ?_) | refine zBx (fun _ => ?_) | refine zPt ?_ | refine zPf ?_ | refine zE ?_ | refine zEA ?_ | refine zNot ?_ | refine zBd ?_ | refine zBs ?_ | refine zFn ?_ | refine zK1 ?_ | refine zK2 ?_ | refine ac_seq ?_ | refine ac_block ?_ | refine ac_region ?_ | refine ac_skip ?_ | refine ac_exit ?_ | refine ac_ret ?_ | refine zT ?_ | refine zF ?_)
      exact ⟨k + 1, ⟨hk', idxAt_no hk.2 ha hq⟩, by omega, x_wkd 0 ⟨rfl, trivial⟩ rfl (by repeat (first | exact ag_refl | refine ag_upd rfl ?_ | refine ag_at rfl rfl ?_))⟩
    · have hq' : decide ((c.toNat : Int) = (a.toNat : Int)) = true := by rw [u8_eq]; exact hq
      repeat (first | refine zNil ?_ | refine zOp ?_ | refine zOpn ?_ | refine zNo ?_ | refine zNon ?_ | refine zUn ?_ | refine zUnn ?_ | refine zYes ?_ | refine zYesn ?_ | (refine zkL ?_; first | refine zL1 ?_ | refine zL2 ?_ | refine zL3 ?_ | refine zLp ?_) | refine zM ?_ | (refine zkF ?_; first | refine zF1 ?_ | refine zF2 ?_ | refine zF3 ?_) | refine zA ?_ | (refine zkB ?_; first | refine zC5 ?_ | refine zC6 ?_ | refine zC1 ?_ | refine zC2 ?_ | refine zC3 ?_ | refine zC4 ?_ | refine zS5 ?_ | refine zS6 ?_ | refine zS1 ?_ | refine zS2 ?_ | refine zS3 ?_ | refine zS4 ?_ | refine zInc ?_ | refine zQ1 ?_ | refine zQ2 ?_ | refine zQ3 ?_ | refine zQ4 ?_ | refine zQ5 ?_ | refine zQ6 ?_) | (refine zkI ?_; first | refine zN1 (fun hlen => ?_) | refine zN2 (fun hlen => ?_) | refine zN3 ?_ | refine zN4 ?_ | refine zAp (fun _ => ?_)) | refine zS ?_ | refine zAl (fun _ => ?_) | refine zBx (fun _ => ?_) | refine zPt ?_ | refine zPf ?_ | refine zE ?_ | refine zEA ?_ | refine zNot ?_ | refine zBd ?_ | refine zBs ?_ | refine zFn ?_ | refine zK1 ?_ | refine zK2 ?_ | refine ac_seq ?_ | refine ac_block ?_ | refine ac_region ?_ | refine ac_skip ?_ | refine ac_exit ?_ | refine ac_ret ?_ | refine zT ?_ | refine zF ?_)
      first | refine zR ?_ | refine zQ ?_
      rw [idxAt_yes hk.2 ha hq]; rfl
  · have hk' : k = l.length := by have : ¬ k < l.length := by simpa using h
                                  omega
    subst hk'
    repeat (first | refine zNil ?_ | refine zOp ?_ | refine zOpn ?_ | refine zNo ?_ | refine zNon ?_ | refine zUn ?_ | refine zUnn ?_ | refine zYes ?_ | refine zYesn ?_ | (refine zkL ?_; first | refine zL1 ?_ | refine zL2 ?_ | refine zL3 ?_ | refine zLp ?_) | refine zM ?_ | (refine zkF ?_; first | refine zF1 ?_ | refine zF2 ?_ | refine zF3 ?_) | refine zA ?_ | (refine zkB ?_; first | refine zC5 ?_ | refine zC6 ?_ | refine zC1 ?_ | refine zC2 ?_ | refine zC3 ?_ | refine zC4 ?_ | refine zS5 ?_ | refine zS6 ?_ | refine zS1 ?_ | refine zS2 ?_ | refine zS3 ?_ | refine zS4 ?_ | refine zInc ?_ | refine zQ1 ?_ | refine zQ2 ?_ | refine zQ3 ?_ | refine zQ4 ?_ | refine zQ5 ?_ | refine zQ6 ?_) | (refine zkI ?_; first | refine zN1 (fun hlen => ?_) | refine zN2 (fun hlen => ?_) | refine zN3 ?_ | refine zN4 ?_ | refine zAp (fun _ => ?_)) | refine zS ?_ | refine zAl (fun _ => ?_) | refine zBx (fun _ => ?_) | refine zPt ?_ | refine zPf ?_ | refine zE ?_ | refine zEA ?_ | refine zNot ?_ | refine zBd ?_ | refine zBs ?_ | refine zFn ?_ | refine zK1 ?_ | refine zK2 ?_ | refine ac_seq ?_ | refine ac_block ?_ | refine ac_region ?_ | refine ac_skip ?_ | refine ac_exit ?_ | refine ac_ret ?_ | refine zT ?_ | refine zF ?_)
    first | refine zR ?_ | refine zQ ?_
    rw [idxAt_end hk.2]; rfl

set_option maxRecDepth 100000 in
set_option maxHeartbeats 1000000 in
theorem containsB_af (c : UInt8) (l : List UInt8) : AF Try.prog 78 [bytRow l, bytT c] (· = .lit (.bool (l.any fun b => decide (c = b)))) := by
  have hc := indexB_af c l
  refine af_enter tok Try.func78 Try.ntmps78 Try.results78 rfl (by kernel_rfl) rfl rfl fun F hX => ?_
  repeat (first | refine zNil ?_ | refine zOp ?_ | refine zOpn ?_ | refine zNo ?_ | refine zNon ?_ | refine zUn ?_ | refine zUnn ?_ | refine zYes ?_ | refine zYesn ?_ | (refine zkL ?_; first | refine zL1 ?_ | refine zL2 ?_ | refine zL3 ?_ | refine zLp ?_) | refine zM ?_ | (refine zkF ?_; first | refine zF1 ?_ | refine zF2 ?_ | refine zF3 ?_) | refine zA ?_ | (refine zkB ?_; first | refine zC5 ?_ | refine zC6 ?_ | refine zC1 ?_ | refine zC2 ?_ | refine zC3 ?_ | refine zC4 ?_ | refine zS5 ?_ | refine zS6 ?_ | refine zS1 ?_ | refine zS2 ?_ | refine zS3 ?_ | refine zS4 ?_ | refine zInc ?_ | refine zQ1 ?_ | refine zQ2 ?_ | refine zQ3 ?_ | refine zQ4 ?_ | refine zQ5 ?_ | refine zQ6 ?_) | (refine zkI ?_; first | refine zN1 (fun hlen => ?_) | refine zN2 (fun hlen => ?_) | refine zN3 ?_ | refine zN4 ?_ | refine zAp (fun _ => ?_)) | refine zS ?_ | refine zAl (fun _ => ?_) | refine zBx (fun _ => ?_) | refine zPt ?_ | refine zPf ?_ | refine zE ?_ | refine zEA ?_ | refine zNot ?_ | refine zBd ?_ | refine zBs ?_ | refine zFn ?_ | refine zK1 ?_ | refine zK2 ?_ | refine ac_seq ?_ | refine ac_block ?_ | refine ac_region ?_ | refine ac_skip ?_ | refine ac_exit ?_ | refine ac_ret ?_ | refine zT ?_ | refine zF ?_)
  refine zCall (hc) ?_
  rintro _ rfl
  repeat (first | refine zNil ?_ | refine zOp ?_ | refine zOpn ?_ | refine zNo ?_ | refine zNon ?_ | refine zUn ?_ | refine zUnn ?_ | refine zYes ?_ | refine zYesn ?_ | (refine zkL ?_; first | refine zL1 ?_ | refine zL2 ?_ | refine zL3 ?_ | refine zLp ?_) | refine zM ?_ | (refine zkF ?_; first | refine zF1 ?_ | refine zF2 ?_ | refine zF3 ?_) | refine zA ?_ | (refine zkB ?_; first | refine zC5 ?_ | refine zC6 ?_ | refine zC1 ?_ | refine zC2 ?_ | refine zC3 ?_ | refine zC4 ?_ | refine zS5 ?_ | refine zS6 ?_ | refine zS1 ?_ | refine zS2 ?_ | refine zS3 ?_ | refine zS4 ?_ | refine zInc ?_ | refine zQ1 ?_ | refine zQ2 ?_ | refine zQ3 ?_ | refine zQ4 ?_ | refine zQ5 ?_ | refine zQ6 ?_) | (refine zkI ?_; first | refine zN1 (fun hlen => ?_) | refine zN2 (fun hlen => ?_) | refine zN3 ?_ | refine zN4 ?_ | refine zAp (fun _ => ?_)) | refine zS ?_ | refine zAl (fun _ => ?_) | refine zBx (fun _ => ?_) | refine zPt ?_ | refine zPf ?_ | refine zE ?_ | refine zEA ?_ | refine zNot ?_ | refine zBd ?_ | refine zBs ?_ | refine zFn ?_ | refine zK1 ?_ | refine zK2 ?_ | refine ac_seq ?_ | refine ac_block ?_ | refine ac_region ?_ | refine ac_skip ?_ | refine ac_exit ?_ | refine ac_ret ?_ | refine zT ?_ | refine zF ?_)
  first | refine zR ?_ | refine zQ ?_
  rw [← idxI_any]; rfl

/-- a node whose parts are as the list of its kind says -/
def okB (n : Int) (t : ByteArray) (m : Nat) (has : ByteArray) (most : Int) : Bool :=
  !((!decide (n = 0)) && !(has.data.toList.any fun b => decide ((110 : UInt8) = b))) && !((!decide (t = ⟨#[]⟩)) && !(has.data.toList.any fun b => decide ((116 : UInt8) = b))) && !decide (most < (m : Int))
theorem len0 (l : List V) : (!decide ((0 : Int) < (l.length : Int))) = decide ((l.length : Int) = 0) := by
  by_cases h : (l.length : Int) = 0
  · rw [decide_eq_true h, h]; rfl
  · rw [decide_eq_false h, decide_eq_true (by omega)]; rfl
theorem len1 (l : List V) : (!decide ((1 : Int) < (l.length : Int))) = decide ((l.length : Int) ≤ 1) := by
  by_cases h : (l.length : Int) ≤ 1
  · rw [decide_eq_true h, decide_eq_false (by omega)]; rfl
  · rw [decide_eq_false h, decide_eq_true (by omega)]; rfl
theorem len400 (l : List V) (h : l.length ≤ 400) : (!decide ((400 : Int) < (l.length : Int))) = true := by
  rw [decide_eq_false (by omega)]; rfl
theorem okB_eq (n : Int) (t : ByteArray) (m : Nat) (has : ByteArray) (most : Int) (c1 c2 : Bool) (h1 : (has.data.toList.any fun b => decide ((110 : UInt8) = b)) = c1) (h2 : (has.data.toList.any fun b => decide ((116 : UInt8) = b)) = c2) : okB n t m has most = ((decide (n = 0) || c1) && (decide (t = ⟨#[]⟩) || c2) && !decide (most < (m : Int))) := by
  unfold okB
  rw [h1, h2]
  cases decide (n = 0) <;> cases decide (t = ⟨#[]⟩) <;> cases c1 <;> cases c2 <;> rfl
section
variable (n : Int) (t : ByteArray) (l : List V)
theorem ok1 : okB n t l.length ⟨#[]⟩ 0 = formN (.mk 1 n t l) := by rw [okB_eq _ _ _ _ _ false false (by decide) (by decide), len0]; simp [formN]
theorem ok2 : okB n t l.length ⟨#[110]⟩ 0 = formN (.mk 2 n t l) := by rw [okB_eq _ _ _ _ _ true false (by decide) (by decide), len0]; simp [formN]
theorem ok6 : okB n t l.length ⟨#[110]⟩ 0 = formN (.mk 6 n t l) := by rw [okB_eq _ _ _ _ _ true false (by decide) (by decide), len0]; simp [formN]
theorem ok3 (e : decide (n = 1) = false) : okB n t l.length ⟨#[]⟩ 0 = formN (.mk 3 n t l) := by rw [okB_eq _ _ _ _ _ false false (by decide) (by decide), len0]; have e' := of_decide_eq_false e; simp [formN, e']
theorem ok3' (e : decide (n = 1) = true) : okB n t l.length ⟨#[110]⟩ 0 = formN (.mk 3 n t l) := by rw [okB_eq _ _ _ _ _ true false (by decide) (by decide), len0]; obtain rfl := of_decide_eq_true e; simp [formN]
theorem ok4 : okB n t l.length ⟨#[116]⟩ 0 = formN (.mk 4 n t l) := by rw [okB_eq _ _ _ _ _ false true (by decide) (by decide), len0]; simp [formN]
theorem ok5 (hl : l.length ≤ 400) (e : decide (t = ⟨#[]⟩) = false) : okB n t l.length ⟨#[116]⟩ 400 = formN (.mk 5 n t l) := by rw [okB_eq _ _ _ _ _ false true (by decide) (by decide), len400 _ hl]; have e' := of_decide_eq_false e; simp [formN, e']
theorem ok7 (hl : l.length ≤ 400) : okB n t l.length ⟨#[110, 116]⟩ 400 = formN (.mk 7 n t l) := by rw [okB_eq _ _ _ _ _ true true (by decide) (by decide), len400 _ hl]; simp [formN]
theorem ok8 : okB n t l.length ⟨#[]⟩ 1 = formN (.mk 8 n t l) := by rw [okB_eq _ _ _ _ _ false false (by decide) (by decide), len1]; simp [formN]
end

end Go.Proofs.Ythgackidonocpaa
