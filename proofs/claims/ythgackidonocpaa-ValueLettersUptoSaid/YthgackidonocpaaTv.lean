/-
  Values of the program's type api.Value as trees; sameValue.
-/
import Derived.Test.YthgackidonocpaaAb12
import Derived.Test.YthgackidonocpaaTab
namespace Go.Proofs.Ythgackidonocpaa
open Go.RowKit

inductive V where
  | mk (kind num : Int) (text : ByteArray) (args : List V)
mutual
def V.ts : V → List T
  | .mk k n t l => [.lit (.int .i64 k), .lit (.int .i64 n), .lit (.string t), .row l.length 4 (V.all l)]
def V.all : List V → List T
  | [] => []
  | v :: r => v.ts ++ V.all r
end
theorem V.all_eq : ∀ l : List V, V.all l = l.flatMap V.ts
  | [] => rfl
  | v :: l => by rw [V.all, V.all_eq l]; rfl
theorem V.ts_len : ∀ v : V, v.ts.length = 4
  | .mk _ _ _ _ => rfl
def V.row (l : List V) : T := .row l.length 4 (V.all l)
def V.t (v : V) : T := .agg v.ts
mutual
def V.same : V → V → Bool
  | .mk k n t l, .mk k' n' t' l' => decide (k = k') && decide (n = n') && decide (t = t') && V.sames l l'
def V.sames : List V → List V → Bool
  | [], [] => true
  | v :: l, v' :: l' => v.same v' && V.sames l l'
  | _, _ => false
end
theorem V.at {l : List V} {k : Nat} {v : V} (h : l[k]? = some v) : ((V.all l).drop (k * 4)).take 4 = v.ts := by rw [V.all_eq]; exact flat_at V.ts 4 V.ts_len h

/-- all pairs up to the first that is not alike -/
def eqBy {α β : Type} (p : α → β → Bool) : List α → List β → Bool
  | [], [] => true
  | a :: l, b :: r => p a b && eqBy p l r
  | _, _ => false

theorem eqBy_len {α β : Type} {p : α → β → Bool} : ∀ {l : List α} {r : List β}, l.length ≠ r.length → eqBy p l r = false
  | [], [], h => absurd rfl h
  | [], _ :: _, _ => rfl
  | _ :: _, [], _ => rfl
  | a :: l, b :: r, h => by rw [eqBy, eqBy_len (by simpa using h), Bool.and_false]
theorem eqBy_step {α β : Type} {p : α → β → Bool} {l : List α} {r : List β} {k : Nat} {a : α} {b : β} (ha : l[k]? = some a) (hb : r[k]? = some b) : eqBy p (l.drop k) (r.drop k) = (p a b && eqBy p (l.drop (k + 1)) (r.drop (k + 1))) := by
  obtain ⟨h1, rfl⟩ := List.getElem?_eq_some_iff.1 ha
  obtain ⟨h2, rfl⟩ := List.getElem?_eq_some_iff.1 hb
  rw [List.drop_eq_getElem_cons h1, List.drop_eq_getElem_cons h2, eqBy]

set_option maxRecDepth 100000 in
set_option maxHeartbeats 2000000 in
theorem eqVals_af (p : V → V → Bool) (f : FuncId) (l r : List V) (hf : ∀ a ∈ l, ∀ b ∈ r, AF Try.prog f [a.t, b.t] (· = .lit (.bool (p a b)))) :
    AF Try.prog 82 [V.row l, V.row r, .fn (.func f) []] (· = .lit (.bool (eqBy p l r))) := by
  refine af_enter tok Try.func82 Try.ntmps82 Try.results82 rfl (by kernel_rfl) rfl rfl fun F hX => ?_
  repeat (first | refine zNil ?_ | refine zOp ?_ | refine zOpn ?_ | refine zNo ?_ | refine zNon ?_ | refine zUn ?_ | refine zUnn ?_ | refine zYes ?_ | refine zYesn ?_ | (refine zkL ?_; first | refine zL1 ?_ | refine zL2 ?_ | refine zL3 ?_ | refine zLp ?_) | refine zM ?_ | (refine zkF ?_; first | refine zF1 ?_ | refine zF2 ?_ | refine zF3 ?_) | refine zA ?_ | (refine zkB ?_; first | refine zC5 ?_ | refine zC6 ?_ | refine zC1 ?_ | refine zC2 ?_ | refine zC3 ?_ | refine zC4 ?_ | refine zS5 ?_ | refine zS6 ?_ | refine zS1 ?_ | refine zS2 ?_ | refine zS3 ?_ | refine zS4 ?_ | refine zInc ?_ | refine zQ1 ?_ | refine zQ2 ?_ | refine zQ3 ?_ | refine zQ4 ?_ | refine zQ5 ?_ | refine zQ6 ?_) | (refine zkI ?_; first | refine zN1 (fun hlen => ?_) | refine zN2 (fun hlen => ?_) | refine zN3 ?_ | refine zN4 ?_ | refine zAp (fun _ => ?_)) | refine zS ?_ | refine zAl (fun _ => ?_) | refine zBx (fun _ => ?_) | refine zPt ?_ | refine zPf ?_ | refine zE ?_ | refine zEA ?_ | refine zNot ?_ | refine zBd ?_ | refine zBs ?_ | refine zFn ?_ | refine zK1 ?_ | refine zK2 ?_ | refine ac_seq ?_ | refine ac_block ?_ | refine ac_region ?_ | refine ac_skip ?_ | refine ac_exit ?_ | refine ac_ret ?_ | refine zT ?_ | refine zF ?_)
  refine x_cond rfl (fun h => ?_) (fun h => ?_)
  · repeat (first | refine zNil ?_ | refine zOp ?_ | refine zOpn ?_ | refine zNo ?_ | refine zNon ?_ | refine zUn ?_ | refine zUnn ?_ | refine zYes ?_ | refine zYesn ?_ | (refine zkL ?_; first | refine zL1 ?_ | refine zL2 ?_ | refine zL3 ?_ | refine zLp ?_) | refine zM ?_ | (refine zkF ?_; first | refine zF1 ?_ | refine zF2 ?_ | refine zF3 ?_) | refine zA ?_ | (refine zkB ?_; first | refine zC5 ?_ | refine zC6 ?_ | refine zC1 ?_ | refine zC2 ?_ | refine zC3 ?_ | refine zC4 ?_ | refine zS5 ?_ | refine zS6 ?_ | refine zS1 ?_ | refine zS2 ?_ | refine zS3 ?_ | refine zS4 ?_ | refine zInc ?_ | refine zQ1 ?_ | refine zQ2 ?_ | refine zQ3 ?_ | refine zQ4 ?_ | refine zQ5 ?_ | refine zQ6 ?_) | (refine zkI ?_; first | refine zN1 (fun hlen => ?_) | refine zN2 (fun hlen => ?_) | refine zN3 ?_ | refine zN4 ?_ | refine zAp (fun _ => ?_)) | refine zS ?_ | refine zAl (fun _ => ?_) | refine zBx (fun _ => ?_) | refine zPt ?_ | refine zPf ?_ | refine zE ?_ | refine zEA ?_ | refine zNot ?_ | refine zBd ?_ | refine zBs ?_ | refine zFn ?_ | refine zK1 ?_ | refine zK2 ?_ | refine ac_seq ?_ | refine ac_block ?_ | refine ac_region ?_ | refine ac_skip ?_ | refine ac_exit ?_ | refine ac_ret ?_ | refine zT ?_ | refine zF ?_)
    first | refine zR ?_ | refine zQ ?_
    have : l.length ≠ r.length := by have := h; simp at this; omega
    rw [eqBy_len this]
    rfl
  · have hlr : l.length = r.length := by have := h; simp at this; omega
    repeat (first | refine zNil ?_ | refine zOp ?_ | refine zOpn ?_ | refine zNo ?_ | refine zNon ?_ | refine zUn ?_ | refine zUnn ?_ | refine zYes ?_ | refine zYesn ?_ | (refine zkL ?_; first | refine zL1 ?_ | refine zL2 ?_ | refine zL3 ?_ | refine zLp ?_) | refine zM ?_ | (refine zkF ?_; first | refine zF1 ?_ | refine zF2 ?_ | refine zF3 ?_) | refine zA ?_ | (refine zkB ?_; first | refine zC5 ?_ | refine zC6 ?_ | refine zC1 ?_ | refine zC2 ?_ | refine zC3 ?_ | refine zC4 ?_ | refine zS5 ?_ | refine zS6 ?_ | refine zS1 ?_ | refine zS2 ?_ | refine zS3 ?_ | refine zS4 ?_ | refine zInc ?_ | refine zQ1 ?_ | refine zQ2 ?_ | refine zQ3 ?_ | refine zQ4 ?_ | refine zQ5 ?_ | refine zQ6 ?_) | (refine zkI ?_; first | refine zN1 (fun hlen => ?_) | refine zN2 (fun hlen => ?_) | refine zN3 ?_ | refine zN4 ?_ | refine zAp (fun _ => ?_)) | refine zS ?_ | refine zAl (fun _ => ?_) | refine zBx (fun _ => ?_) | refine zPt ?_ | refine zPf ?_ | refine zE ?_ | refine zEA ?_ | refine zNot ?_ | refine zBd ?_ | refine zBs ?_ | refine zFn ?_ | refine zK1 ?_ | refine zK2 ?_ | refine ac_seq ?_ | refine ac_block ?_ | refine ac_region ?_ | refine ac_skip ?_ | refine ac_exit ?_ | refine ac_ret ?_ | refine zT ?_ | refine zF ?_)
    refine x_loop [6, 7, 8, 9, 17, 18, 19, 20, 21, 22, 23, 24, 25, 26, 27, 28, 29, 30, 31] (fun k : Nat => [(17, .c (.lit (.int .i64 k)))]) (fun _ => []) (fun k => k ≤ l.length ∧ eqBy p l r = eqBy p (l.drop k) (r.drop k)) (fun k => l.length - k) 0 ⟨Nat.zero_le _, rfl⟩ ⟨rfl, trivial⟩ rfl fun k hk => ?_
    repeat (first | refine zNil ?_ | refine zOp ?_ | refine zOpn ?_ | refine zNo ?_ | refine zNon ?_ | refine zUn ?_ | refine zUnn ?_ | refine zYes ?_ | refine zYesn ?_ | (refine zkL ?_; first | refine zL1 ?_ | refine zL2 ?_ | refine zL3 ?_ | refine zLp ?_) | refine zM ?_ | (refine zkF ?_; first | refine zF1 ?_ | refine zF2 ?_ | refine zF3 ?_) | refine zA ?_ | (refine zkB ?_; first | refine zC5 ?_ | refine zC6 ?_ | refine zC1 ?_ | refine zC2 ?_ | refine zC3 ?_ | refine zC4 ?_ | refine zS5 ?_ | refine zS6 ?_ | refine zS1 ?_ | refine zS2 ?_ | refine zS3 ?_ | refine zS4 ?_ | refine zInc ?_ | refine zQ1 ?_ | refine zQ2 ?_ | refine zQ3 ?_ | refine zQ4 ?_ | refine zQ5 ?_ | refine zQ6 ?_) | (refine zkI ?_; first | refine zN1 (fun hlen => ?_) | refine zN2 (fun hlen => ?_) | refine zN3 ?_ | refine zN4 ?_ | refine zAp (fun _ => ?_)) | refine zS ?_ | refine zAl (fun _ => ?_) | refine zBx (fun _ => ?_) | refine zPt ?_ | refine zPf ?_ | refine zE ?_ | refine zEA ?_ | refine zNot ?_ | refine zBd ?_ | refine zBs ?_ | refine zFn ?_ | refine zK1 ?_ | refine zK2 ?_ | refine ac_seq ?_ | refine ac_block ?_ | refine ac_region ?_ | refine ac_skip ?_ | refine ac_exit ?_ | refine ac_ret ?_ | refine zT ?_ | refine zF ?_)
    refine x_cond rfl (fun h => ?_) (fun h => ?_)
    · have hk' : k < l.length := by simpa using h
      obtain ⟨a, ha⟩ : ∃ a, l[k]? = some a := ⟨_, List.getElem?_eq_getElem hk'⟩
      obtain ⟨b, hb⟩ : ∃ b, r[k]? = some b := ⟨_, List.getElem?_eq_getElem (hlr ▸ hk')⟩
      have hp := hf a (List.mem_of_getElem? ha) b (List.mem_of_getElem? hb)
      have hstep : eqBy p (l.drop k) (r.drop k) = (p a b && eqBy p (l.drop (k + 1)) (r.drop (k + 1))) := eqBy_step ha hb
      repeat (first | refine zNil ?_ | refine zOp ?_ | refine zOpn ?_ | refine zNo ?_ | refine zNon ?_ | refine zUn ?_ | refine zUnn ?_ | refine zYes ?_ | refine zYesn ?_ | (refine zkL ?_; first | refine zL1 ?_ | refine zL2 ?_ | refine zL3 ?_ | refine zLp ?_) | refine zM ?_ | (refine zkF ?_; first | refine zF1 ?_ | refine zF2 ?_ | refine zF3 ?_) | refine zA ?_ | (refine zkB ?_; first | refine zC5 ?_ | refine zC6 ?_ | refine zC1 ?_ | refine zC2 ?_ | refine zC3 ?_ | refine zC4 ?_ | refine zS5 ?_ | refine zS6 ?_ | refine zS1 ?_ | refine zS2 ?_ | refine zS3 ?_ | refine zS4 ?_ | refine zInc ?_ | refine zQ1 ?_ | refine zQ2 ?_ | refine zQ3 ?_ | refine zQ4 ?_ | refine zQ5 ?_ | refine zQ6 ?_) | (refine zkI ?_; first | refine zN1 (fun hlen => ?_) | refine zN2 (fun hlen => ?_) | refine zN3 ?_ | refine zN4 ?_ | refine zAp (fun _ => ?_)) | refine zS ?_ | refine zAl (fun _ => ?_) | refine zBx (fun _ => ?_) | refine zPt ?_ | refine zPf ?_ | refine zE ?_ | refine zEA ?_ | refine zNot ?_ | refine zBd ?_ | refine zBs ?_ | refine zFn ?_ | refine zK1 ?_ | refine zK2 ?_ | refine ac_seq ?_ | refine ac_block ?_ | refine ac_region ?_ | refine ac_skip ?_ | refine ac_exit ?_ | refine ac_ret ?_ | refine zT ?_ | refine zF ?_)
      refine lo_idx tok k rfl rfl rfl hk' rfl rfl rfl rfl ?_
      repeat (first | refine zNil ?_ | refine zOp ?_ | refine zOpn ?_ | refine zNo ?_ | refine zNon ?_ | refine zUn ?_ | refine zUnn ?_ | refine zYes ?_ | refine zYesn ?_ | (refine zkL ?_; first | refine zL1 ?_ | refine zL2 ?_ | refine zL3 ?_ | refine zLp ?_) | refine zM ?_ | (refine zkF ?_; first | refine zF1 ?_ | refine zF2 ?_ | refine zF3 ?_) | refine zA ?_ | (refine zkB ?_; first | refine zC5 ?_ | refine zC6 ?_ | refine zC1 ?_ | refine zC2 ?_ | refine zC3 ?_ | refine zC4 ?_ | refine zS5 ?_ | refine zS6 ?_ | refine zS1 ?_ | refine zS2 ?_ | refine zS3 ?_ | refine zS4 ?_ | refine zInc ?_ | refine zQ1 ?_ | refine zQ2 ?_ | refine zQ3 ?_ | refine zQ4 ?_ | refine zQ5 ?_ | refine zQ6 ?_) | (refine zkI ?_; first | refine zN1 (fun hlen => ?_) | refine zN2 (fun hlen => ?_) | refine zN3 ?_ | refine zN4 ?_ | refine zAp (fun _ => ?_)) | refine zS ?_ | refine zAl (fun _ => ?_) | refine zBx (fun _ => ?_) | refine zPt ?_ | refine zPf ?_ | refine zE ?_ | refine zEA ?_ | refine zNot ?_ | refine zBd ?_ | refine zBs ?_ | refine zFn ?_ | refine zK1 ?_ | refine zK2 ?_ | refine ac_seq ?_ | refine ac_block ?_ | refine ac_region ?_ | refine ac_skip ?_ | refine ac_exit ?_ | refine ac_ret ?_ | refine zT ?_ | refine zF ?_)
      refine lo_load_pin tok rfl rfl rfl (V.at ha) (V.ts_len a) ?_
      obtain ⟨ka, na, ta, la⟩ := a
      obtain ⟨kb, nb, tb, lb⟩ := b
      repeat (first | refine zNil ?_ | refine zOp ?_ | refine zOpn ?_ | refine zNo ?_ | refine zNon ?_ | refine zUn ?_ | refine zUnn ?_ | refine zYes ?_ | refine zYesn ?_ | (refine zkL ?_; first | refine zL1 ?_ | refine zL2 ?_ | refine zL3 ?_ | refine zLp ?_) | refine zM ?_ | (refine zkF ?_; first | refine zF1 ?_ | refine zF2 ?_ | refine zF3 ?_) | refine zA ?_ | (refine zkB ?_; first | refine zC5 ?_ | refine zC6 ?_ | refine zC1 ?_ | refine zC2 ?_ | refine zC3 ?_ | refine zC4 ?_ | refine zS5 ?_ | refine zS6 ?_ | refine zS1 ?_ | refine zS2 ?_ | refine zS3 ?_ | refine zS4 ?_ | refine zInc ?_ | refine zQ1 ?_ | refine zQ2 ?_ | refine zQ3 ?_ | refine zQ4 ?_ | refine zQ5 ?_ | refine zQ6 ?_) | (refine zkI ?_; first | refine zN1 (fun hlen => ?_) | refine zN2 (fun hlen => ?_) | refine zN3 ?_ | refine zN4 ?_ | refine zAp (fun _ => ?_)) | refine zS ?_ | refine zAl (fun _ => ?_) | refine zBx (fun _ => ?_) | refine zPt ?_ | refine zPf ?_ | refine zE ?_ | refine zEA ?_ | refine zNot ?_ | refine zBd ?_ | refine zBs ?_ | refine zFn ?_ | refine zK1 ?_ | refine zK2 ?_ | refine ac_seq ?_ | refine ac_block ?_ | refine ac_region ?_ | refine ac_skip ?_ | refine ac_exit ?_ | refine ac_ret ?_ | refine zT ?_ | refine zF ?_)
      refine lo_idx tok k rfl rfl rfl (hlr ▸ hk') rfl rfl rfl rfl ?_
      repeat (first | refine zNil ?_ | refine zOp ?_ | refine zOpn ?_ | refine zNo ?_ | refine zNon ?_ | refine zUn ?_ | refine zUnn ?_ | refine zYes ?_ | refine zYesn ?_ | (refine zkL ?_; first | refine zL1 ?_ | refine zL2 ?_ | refine zL3 ?_ | refine zLp ?_) | refine zM ?_ | (refine zkF ?_; first | refine zF1 ?_ | refine zF2 ?_ | refine zF3 ?_) | refine zA ?_ | (refine zkB ?_; first | refine zC5 ?_ | refine zC6 ?_ | refine zC1 ?_ | refine zC2 ?_ | refine zC3 ?_ | refine zC4 ?_ | refine zS5 ?_ | refine zS6 ?_ | refine zS1 ?_ | refine zS2 ?_ | refine zS3 ?_ | refine zS4 ?_ | refine zInc ?_ | refine zQ1 ?_ | refine zQ2 ?_ | refine zQ3 ?_ | refine zQ4 ?_ | refine zQ5 ?_ | refine zQ6 ?_) | (refine zkI ?_; first | refine zN1 (fun hlen => ?_) | refine zN2 (fun hlen => ?_) | refine zN3 ?_ | refine zN4 ?_ | refine zAp (fun _ => ?_)) | refine zS ?_ | refine zAl (fun _ => ?_) | refine zBx (fun _ => ?_) | refine zPt ?_ | refine zPf ?_ | refine zE ?_ | refine zEA ?_ | refine zNot ?_ | refine zBd ?_ | refine zBs ?_ | refine zFn ?_ | refine zK1 ?_ | refine zK2 ?_ | refine ac_seq ?_ | refine ac_block ?_ | refine ac_region ?_ | refine ac_skip ?_ | refine ac_exit ?_ | refine ac_ret ?_ | refine zT ?_ | refine zF ?_)
      refine lo_load_pin tok rfl rfl rfl (V.at hb) (V.ts_len _) ?_
      repeat (first | refine zNil ?_ | refine zOp ?_ | refine zOpn ?_ | refine zNo ?_ | refine zNon ?_ | refine zUn ?_ | refine zUnn ?_ | refine zYes ?_ | refine zYesn ?_ | (refine zkL ?_; first | refine zL1 ?_ | refine zL2 ?_ | refine zL3 ?_ | refine zLp ?_) | refine zM ?_ | (refine zkF ?_; first | refine zF1 ?_ | refine zF2 ?_ | refine zF3 ?_) | refine zA ?_ | (refine zkB ?_; first | refine zC5 ?_ | refine zC6 ?_ | refine zC1 ?_ | refine zC2 ?_ | refine zC3 ?_ | refine zC4 ?_ | refine zS5 ?_ | refine zS6 ?_ | refine zS1 ?_ | refine zS2 ?_ | refine zS3 ?_ | refine zS4 ?_ | refine zInc ?_ | refine zQ1 ?_ | refine zQ2 ?_ | refine zQ3 ?_ | refine zQ4 ?_ | refine zQ5 ?_ | refine zQ6 ?_) | (refine zkI ?_; first | refine zN1 (fun hlen => ?_) | refine zN2 (fun hlen => ?_) | refine zN3 ?_ | refine zN4 ?_ | refine zAp (fun _ => ?_)) | refine zS ?_ | refine zAl (fun _ => ?_) | refine zBx (fun _ => ?_) | refine zPt ?_ | refine zPf ?_ | refine zE ?_ | refine zEA ?_ | refine zNot ?_ | refine zBd ?_ | refine zBs ?_ | refine zFn ?_ | refine zK1 ?_ | refine zK2 ?_ | refine ac_seq ?_ | refine ac_block ?_ | refine ac_region ?_ | refine ac_skip ?_ | refine ac_exit ?_ | refine ac_ret ?_ | refine zT ?_ | refine zF ?_)
      refine zCallc (hp) ?_
      rintro _ rfl
      repeat (first | refine zNil ?_ | refine zOp ?_ | refine zOpn ?_ | refine zNo ?_ | refine zNon ?_ | refine zUn ?_ | refine zUnn ?_ | refine zYes ?_ | refine zYesn ?_ | (refine zkL ?_; first | refine zL1 ?_ | refine zL2 ?_ | refine zL3 ?_ | refine zLp ?_) | refine zM ?_ | (refine zkF ?_; first | refine zF1 ?_ | refine zF2 ?_ | refine zF3 ?_) | refine zA ?_ | (refine zkB ?_; first | refine zC5 ?_ | refine zC6 ?_ | refine zC1 ?_ | refine zC2 ?_ | refine zC3 ?_ | refine zC4 ?_ | refine zS5 ?_ | refine zS6 ?_ | refine zS1 ?_ | refine zS2 ?_ | refine zS3 ?_ | refine zS4 ?_ | refine zInc ?_ | refine zQ1 ?_ | refine zQ2 ?_ | refine zQ3 ?_ | refine zQ4 ?_ | refine zQ5 ?_ | refine zQ6 ?_) | (refine zkI ?_; first | refine zN1 (fun hlen => ?_) | refine zN2 (fun hlen => ?_) | refine zN3 ?_ | refine zN4 ?_ | refine zAp (fun _ => ?_)) | refine zS ?_ | refine zAl (fun _ => ?_) | refine zBx (fun _ => ?_) | refine zPt ?_ | refine zPf ?_ | refine zE ?_ | refine zEA ?_ | refine zNot ?_ | refine zBd ?_ | refine zBs ?_ | refine zFn ?_ | refine zK1 ?_ | refine zK2 ?_ | refine ac_seq ?_ | refine ac_block ?_ | refine ac_region ?_ | refine ac_skip ?_ | refine ac_exit ?_ | refine ac_ret ?_ | refine zT ?_ | refine zF ?_)
      refine x_cond rfl (fun h => ?_) (fun h => ?_)
      · repeat (first | refine zNil ?_ | refine zOp ?_ | refine zOpn ?_ | refine zNo ?_ | refine zNon ?_ | refine zUn ?_ | refine zUnn ?_ | refine zYes ?_ | refine zYesn ?_ | (refine zkL ?_; first | refine zL1 ?_ | refine zL2 ?_ | refine zL3 ?_ | refine zLp ?_) | refine zM ?_ | (refine zkF ?_; first | refine zF1 ?_ | refine zF2 ?_ | refine zF3 ?_) | refine zA ?_ | (refine zkB ?_; first | refine zC5 ?_ | refine zC6 ?_ | refine zC1 ?_ | refine zC2 ?_ | refine zC3 ?_ | refine zC4 ?_ | refine zS5 ?_ | refine zS6 ?_ | refine zS1 ?_ | refine zS2 ?_ | refine zS3 ?_ | refine zS4 ?_ | refine zInc ?_ | refine zQ1 ?_ | refine zQ2 ?_ | refine zQ3 ?_ | refine zQ4 ?_ | refine zQ5 ?_ | refine zQ6 ?_) | (refine zkI ?_; first | refine zN1 (fun hlen => ?_) | refine zN2 (fun hlen => ?_) | refine zN3 ?_ | refine zN4 ?_ | refine zAp (fun _ => ?_)) | refine zS ?_ | refine zAl (fun _ => ?_) | refine zBx (fun _ => ?_) | refine zPt ?_ | refine zPf ?_ | refine zE ?_ | refine zEA ?_ | refine zNot ?_ | refine zBd ?_ | refine zBs ?_ | refine zFn ?_ | refine zK1 ?_ | refine zK2 ?_ | refine ac_seq ?_ | refine ac_block ?_ | refine ac_region ?_ | refine ac_skip ?_ | refine ac_exit ?_ | refine ac_ret ?_ | refine zT ?_ | refine zF ?_)
        first | refine zR ?_ | refine zQ ?_
        have hq : p (.mk ka na ta la) (.mk kb nb tb lb) = false := by simpa using h
        rw [hk.2, hstep, hq]
        rfl
      · repeat (first | refine zNil ?_ | refine zOp ?_ | refine zOpn ?_ | refine zNo ?_ | refine zNon ?_ | refine zUn ?_ | refine zUnn ?_ | refine zYes ?_ | refine zYesn ?_ | (refine zkL ?_; first | refine zL1 ?_ | refine zL2 ?_ | refine zL3 ?_ | refine zLp ?_) | refine zM ?_ | (refine zkF ?_; first | refine zF1 ?_ | refine zF2 ?_ | refine zF3 ?_) | refine zA ?_ | (refine zkB ?_; first | refine zC5 ?_ | refine zC6 ?_ | refine zC1 ?_ | refine zC2 ?_ | refine zC3 ?_ | refine zC4 ?_ | refine zS5 ?_ | refine zS6 ?_ | refine zS1 ?_ | refine zS2 ?_ | refine zS3 ?_ | refine zS4 ?_ | refine zInc ?_ | refine zQ1 ?_ | refine zQ2 ?_ | refine zQ3 ?_ | refine zQ4 ?_ | refine zQ5 ?_ | refine zQ6 ?_) | (refine zkI ?_; first | refine zN1 (fun hlen => ?_) | refine zN2 (fun hlen => ?_) | refine zN3 ?_ | refine zN4 ?_ | refine zAp (fun _ => ?_)) | refine zS ?_ | refine zAl (fun _ => ?_) | refine zBx (fun _ => ?_) | refine zPt ?_ | refine zPf ?_ | refine zE ?_ | refine zEA ?_ | refine zNot ?_ | refine zBd ?_ | refine zBs ?_ | refine zFn ?_ | refine zK1 ?_ | refine zK2 ?_ | refine ac_seq ?_ | refine ac_block ?_ | refine ac_region ?_ | refine ac_skip ?_ | refine ac_exit ?_ | refine ac_ret ?_ | refine zT ?_ | refine zF ?_)
        have hq : p (.mk ka na ta la) (.mk kb nb tb lb) = true := by simpa using h
        exact ⟨k + 1, ⟨hk', by rw [hk.2, hstep, hq, Bool.true_and]⟩, by omega, x_wkd 0 ⟨rfl, trivial⟩ rfl (by repeat (first | exact ag_refl | refine ag_upd rfl ?_ | refine ag_at rfl rfl ?_))⟩
    · have hk' : k = l.length := by have : ¬ k < l.length := by simpa using h
                                    omega
      repeat (first | refine zNil ?_ | refine zOp ?_ | refine zOpn ?_ | refine zNo ?_ | refine zNon ?_ | refine zUn ?_ | refine zUnn ?_ | refine zYes ?_ | refine zYesn ?_ | (refine zkL ?_; first | refine zL1 ?_ | refine zL2 ?_ | refine zL3 ?_ | refine zLp ?_) | refine zM ?_ | (refine zkF ?_; first | refine zF1 ?_ | refine zF2 ?_ | refine zF3 ?_) | refine zA ?_ | (refine zkB ?_; first | refine zC5 ?_ | refine zC6 ?_ | refine zC1 ?_ | refine zC2 ?_ | refine zC3 ?_ | refine zC4 ?_ | refine zS5 ?_ | refine zS6 ?_ | refine zS1 ?_ | refine zS2 ?_ | refine zS3 ?_ | refine zS4 ?_ | refine zInc ?_ | refine zQ1 ?_ | refine zQ2 ?_ | refine zQ3 ?_ | refine zQ4 ?_ | refine zQ5 ?_ | refine zQ6 ?_) | (refine zkI ?_; first | refine zN1 (fun hlen => ?_) | refine zN2 (fun hlen => ?_) | refine zN3 ?_ | refine zN4 ?_ | refine zAp (fun _ => ?_)) | refine zS ?_ | refine zAl (fun _ => ?_) | refine zBx (fun _ => ?_) | refine zPt ?_ | refine zPf ?_ | refine zE ?_ | refine zEA ?_ | refine zNot ?_ | refine zBd ?_ | refine zBs ?_ | refine zFn ?_ | refine zK1 ?_ | refine zK2 ?_ | refine ac_seq ?_ | refine ac_block ?_ | refine ac_region ?_ | refine ac_skip ?_ | refine ac_exit ?_ | refine ac_ret ?_ | refine zT ?_ | refine zF ?_)
      first | refine zR ?_ | refine zQ ?_
      rw [hk.2, hk', List.drop_length, hlr, List.drop_length]
      rfl

theorem V.sames_eq : ∀ l r : List V, V.sames l r = eqBy V.same l r
  | [], [] => rfl
  | [], _ :: _ => rfl
  | _ :: _, [] => rfl
  | a :: l, b :: r => by rw [V.sames, eqBy, V.sames_eq l r]
mutual
def V.size : V → Nat
  | .mk _ _ _ l => V.sizes l + 1
def V.sizes : List V → Nat
  | [] => 0
  | v :: r => v.size + V.sizes r
end
theorem V.size_mem {v : V} : ∀ {l : List V}, v ∈ l → v.size ≤ V.sizes l
  | [], h => by simp at h
  | x :: l, h => by
    simp only [V.sizes]
    rcases List.mem_cons.1 h with rfl | h
    · omega
    · have := V.size_mem h; omega
theorem V.len_sizes : ∀ l : List V, l.length ≤ V.sizes l
  | [] => by simp [V.sizes]
  | .mk _ _ _ _ :: l => by have := V.len_sizes l; simp only [V.sizes, V.size, List.length_cons]; omega
theorem V.ind {P : V → Prop} (h : ∀ k n t l, (∀ v ∈ l, P v) → P (.mk k n t l)) : ∀ v, P v := by
  have : ∀ (N : Nat) (v : V), v.size ≤ N → P v := by
    intro N
    induction N with
    | zero => intro v hv; cases v; simp [V.size] at hv
    | succ N ih =>
      intro v hv
      cases v with
      | mk k n t l =>
        refine h k n t l fun x hx => ih x ?_
        have := V.size_mem hx
        simp only [V.size] at hv
        omega
  exact fun v => this v.size v (Nat.le_refl _)
theorem eqBy_refl {α : Type} {p : α → α → Bool} : ∀ {l : List α}, (∀ a ∈ l, p a a = true) → eqBy p l l = true
  | [], _ => rfl
  | a :: l, h => by rw [eqBy, h a (by simp), eqBy_refl fun a ha => h a (List.mem_cons_of_mem _ ha)]; rfl
theorem V.same_refl (v : V) : v.same v = true := by
  induction v using V.ind with
  | h k n t l ih => simp [V.same, V.sames_eq, eqBy_refl ih]

set_option maxRecDepth 100000 in
set_option maxHeartbeats 1000000 in
theorem sameValue_af (v : V) : ∀ v' : V, AF Try.prog 22 [v.t, v'.t] (· = .lit (.bool (v.same v'))) := by
  induction v using V.ind with
  | h k n t l ih =>
    rintro ⟨k', n', t', l'⟩
    have hcall := eqVals_af V.same 22 l l' (fun a ha b _ => ih a ha b)
    refine af_enter tok Try.func22 Try.ntmps22 Try.results22 rfl (by kernel_rfl) rfl rfl fun F hX => ?_
    cases d1 : decide (k = k')
    · repeat (first | refine zNil ?_ | refine zOp ?_ | refine zOpn ?_ | refine zNo ?_ | refine zNon ?_ | refine zUn ?_ | refine zUnn ?_ | refine zYes ?_ | refine zYesn ?_ | (refine zkL ?_; first | refine zL1 ?_ | refine zL2 ?_ | refine zL3 ?_ | refine zLp ?_) | refine zM ?_ | (refine zkF ?_; first | refine zF1 ?_ | refine zF2 ?_ | refine zF3 ?_) | refine zA ?_ | (refine zkB ?_; first | refine zC5 ?_ | refine zC6 ?_ | refine zC1 ?_ | refine zC2 ?_ | refine zC3 ?_ | refine zC4 ?_ | refine zS5 ?_ | refine zS6 ?_ | refine zS1 ?_ | refine zS2 ?_ | refine zS3 ?_ | refine zS4 ?_ | refine zInc ?_ | refine zQ1 ?_ | refine zQ2 ?_ | refine zQ3 ?_ | refine zQ4 ?_ | refine zQ5 ?_ | refine zQ6 ?_) | (refine zkI ?_; first | refine zN1 (fun hlen => ?_) | refine zN2 (fun hlen => ?_) | refine zN3 ?_ | refine zN4 ?_ | refine zAp (fun _ => ?_)) | refine zS ?_ | refine zAl (fun _ => ?_) | refine zBx (fun _ => ?_) | refine zPt ?_ | refine zPf ?_ | refine zE ?_ | refine zEA ?_ | refine zNot ?_ | refine zBd ?_ | refine zBs ?_ | refine zFn ?_ | refine zK1 ?_ | refine zK2 ?_ | refine ac_seq ?_ | refine ac_block ?_ | refine ac_region ?_ | refine ac_skip ?_ | refine ac_exit ?_ | refine ac_ret ?_ | refine zT ?_ | refine zF ?_)
      first | refine zR ?_ | refine zQ ?_
      simp [V.same, d1, outT]
    cases d2 : decide (n = n')
    · repeat (first | refine zNil ?_ | refine zOp ?_ | refine zOpn ?_ | refine zNo ?_ | refine zNon ?_ | refine zUn ?_ | refine zUnn ?_ | refine zYes ?_ | refine zYesn ?_ | (refine zkL ?_; first | refine zL1 ?_ | refine zL2 ?_ | refine zL3 ?_ | refine zLp ?_) | refine zM ?_ | (refine zkF ?_; first | refine zF1 ?_ | refine zF2 ?_ | refine zF3 ?_) | refine zA ?_ | (refine zkB ?_; first | refine zC5 ?_ | refine zC6 ?_ | refine zC1 ?_ | refine zC2 ?_ | refine zC3 ?_ | refine zC4 ?_ | refine zS5 ?_ | refine zS6 ?_ | refine zS1 ?_ | refine zS2 ?_ | refine zS3 ?_ | refine zS4 ?_ | refine zInc ?_ | refine zQ1 ?_ | refine zQ2 ?_ | refine zQ3 ?_ | refine zQ4 ?_ | refine zQ5 ?_ | refine zQ6 ?_) | (refine zkI ?_; first | refine zN1 (fun hlen => ?_) | refine zN2 (fun hlen => ?_) | refine zN3 ?_ | refine zN4 ?_ | refine zAp (fun _ => ?_)) | refine zS ?_ | refine zAl (fun _ => ?_) | refine zBx (fun _ => ?_) | refine zPt ?_ | refine zPf ?_ | refine zE ?_ | refine zEA ?_ | refine zNot ?_ | refine zBd ?_ | refine zBs ?_ | refine zFn ?_ | refine zK1 ?_ | refine zK2 ?_ | refine ac_seq ?_ | refine ac_block ?_ | refine ac_region ?_ | refine ac_skip ?_ | refine ac_exit ?_ | refine ac_ret ?_ | refine zT ?_ | refine zF ?_)
      first | refine zR ?_ | refine zQ ?_
      simp [V.same, d2, outT]
    cases d3 : decide (t = t')
    · repeat (first | refine zNil ?_ | refine zOp ?_ | refine zOpn ?_ | refine zNo ?_ | refine zNon ?_ | refine zUn ?_ | refine zUnn ?_ | refine zYes ?_ | refine zYesn ?_ | (refine zkL ?_; first | refine zL1 ?_ | refine zL2 ?_ | refine zL3 ?_ | refine zLp ?_) | refine zM ?_ | (refine zkF ?_; first | refine zF1 ?_ | refine zF2 ?_ | refine zF3 ?_) | refine zA ?_ | (refine zkB ?_; first | refine zC5 ?_ | refine zC6 ?_ | refine zC1 ?_ | refine zC2 ?_ | refine zC3 ?_ | refine zC4 ?_ | refine zS5 ?_ | refine zS6 ?_ | refine zS1 ?_ | refine zS2 ?_ | refine zS3 ?_ | refine zS4 ?_ | refine zInc ?_ | refine zQ1 ?_ | refine zQ2 ?_ | refine zQ3 ?_ | refine zQ4 ?_ | refine zQ5 ?_ | refine zQ6 ?_) | (refine zkI ?_; first | refine zN1 (fun hlen => ?_) | refine zN2 (fun hlen => ?_) | refine zN3 ?_ | refine zN4 ?_ | refine zAp (fun _ => ?_)) | refine zS ?_ | refine zAl (fun _ => ?_) | refine zBx (fun _ => ?_) | refine zPt ?_ | refine zPf ?_ | refine zE ?_ | refine zEA ?_ | refine zNot ?_ | refine zBd ?_ | refine zBs ?_ | refine zFn ?_ | refine zK1 ?_ | refine zK2 ?_ | refine ac_seq ?_ | refine ac_block ?_ | refine ac_region ?_ | refine ac_skip ?_ | refine ac_exit ?_ | refine ac_ret ?_ | refine zT ?_ | refine zF ?_)
      first | refine zR ?_ | refine zQ ?_
      simp [V.same, d3, outT]
    repeat (first | refine zNil ?_ | refine zOp ?_ | refine zOpn ?_ | refine zNo ?_ | refine zNon ?_ | refine zUn ?_ | refine zUnn ?_ | refine zYes ?_ | refine zYesn ?_ | (refine zkL ?_; first | refine zL1 ?_ | refine zL2 ?_ | refine zL3 ?_ | refine zLp ?_) | refine zM ?_ | (refine zkF ?_; first | refine zF1 ?_ | refine zF2 ?_ | refine zF3 ?_) | refine zA ?_ | (refine zkB ?_; first | refine zC5 ?_ | refine zC6 ?_ | refine zC1 ?_ | refine zC2 ?_ | refine zC3 ?_ | refine zC4 ?_ | refine zS5 ?_ | refine zS6 ?_ | refine zS1 ?_ | refine zS2 ?_ | refine zS3 ?_ | refine zS4 ?_ | refine zInc ?_ | refine zQ1 ?_ | refine zQ2 ?_ | refine zQ3 ?_ | refine zQ4 ?_ | refine zQ5 ?_ | refine zQ6 ?_) | (refine zkI ?_; first | refine zN1 (fun hlen => ?_) | refine zN2 (fun hlen => ?_) | refine zN3 ?_ | refine zN4 ?_ | refine zAp (fun _ => ?_)) | refine zS ?_ | refine zAl (fun _ => ?_) | refine zBx (fun _ => ?_) | refine zPt ?_ | refine zPf ?_ | refine zE ?_ | refine zEA ?_ | refine zNot ?_ | refine zBd ?_ | refine zBs ?_ | refine zFn ?_ | refine zK1 ?_ | refine zK2 ?_ | refine ac_seq ?_ | refine ac_block ?_ | refine ac_region ?_ | refine ac_skip ?_ | refine ac_exit ?_ | refine ac_ret ?_ | refine zT ?_ | refine zF ?_)
    refine zCall (hcall) ?_
    rintro _ rfl
    repeat (first | refine zNil ?_ | refine zOp ?_ | refine zOpn ?_ | refine zNo ?_ | refine zNon ?_ | refine zUn ?_ | refine zUnn ?_ | refine zYes ?_ | refine zYesn ?_ | (refine zkL ?_; first | refine zL1 ?_ | refine zL2 ?_ | refine zL3 ?_ | refine zLp ?_) | refine zM ?_ | (refine zkF ?_; first | refine zF1 ?_ | refine zF2 ?_ | refine zF3 ?_) | refine zA ?_ | (refine zkB ?_; first | refine zC5 ?_ | refine zC6 ?_ | refine zC1 ?_ | refine zC2 ?_ | refine zC3 ?_ | refine zC4 ?_ | refine zS5 ?_ | refine zS6 ?_ | refine zS1 ?_ | refine zS2 ?_ | refine zS3 ?_ | refine zS4 ?_ | refine zInc ?_ | refine zQ1 ?_ | refine zQ2 ?_ | refine zQ3 ?_ | refine zQ4 ?_ | refine zQ5 ?_ | refine zQ6 ?_) | (refine zkI ?_; first | refine zN1 (fun hlen => ?_) | refine zN2 (fun hlen => ?_) | refine zN3 ?_ | refine zN4 ?_ | refine zAp (fun _ => ?_)) | refine zS ?_ | refine zAl (fun _ => ?_) | refine zBx (fun _ => ?_) | refine zPt ?_ | refine zPf ?_ | refine zE ?_ | refine zEA ?_ | refine zNot ?_ | refine zBd ?_ | refine zBs ?_ | refine zFn ?_ | refine zK1 ?_ | refine zK2 ?_ | refine ac_seq ?_ | refine ac_block ?_ | refine ac_region ?_ | refine ac_skip ?_ | refine ac_exit ?_ | refine ac_ret ?_ | refine zT ?_ | refine zF ?_)
    first | refine zR ?_ | refine zQ ?_
    simp [V.same, d1, d2, d3, V.sames_eq, outT]

end Go.Proofs.Ythgackidonocpaa
