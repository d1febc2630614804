/-
  Texts of this proof, part 9: Kmd Kme Kpa Kpb Ab54 Kpc.
-/
import Derived.Test.YtdogdjcjmhogmaaQMarkRuns8
namespace Go.Proofs.Ytdogdjcjmhogmaa
open Go.RowKit
theorem perm3 {α : Type} (a b c d : α) (l : List α) : (a :: b :: c :: d :: l).Perm (a :: b :: c :: (l ++ [d])) := ((List.perm_append_comm (l₂ := l) (l₁ := [d])).cons _).cons _ |>.cons _
def rowsT (S : List (Value × List Int)) : List T := S.map fun x => intRow x.2
theorem rowsT_snoc {S : List (Value × List Int)} {k : Nat} {x : Value × List Int} (h : S[k]? = some x) : rowsT (S.take (k + 1)) = rowsT (S.take k) ++ [intRow x.2] := by
  obtain ⟨h1, rfl⟩ := List.getElem?_eq_some_iff.1 h
  unfold rowsT
  rw [List.take_succ_eq_append_getElem h1, List.map_append]; rfl
theorem take_len1 {α : Type} {l : List α} {k : Nat} (h : k < l.length) : (l.take (k + 1)).length = (l.take k).length + 1 := by rw [List.length_take, List.length_take]; omega
set_option maxRecDepth 100000 in
set_option maxHeartbeats 2000000 in
theorem tell_no (b : Nat) (l : List Int) (bg : Bool) (st : Int) (vm vw : Value) (m : List Bool) (h : (bg && !(m.any fun a => !a)) = false) : AG Try.prog 13 [.ptr 0 b 0] [sdB b l bg st vm vw, mkB vm m] (fun r hs => r = .tup [.c (.lit (.int .i64 0)), .c (.lit (.slice none 0 0)), .c (.lit (.int .i64 8))] ∧ hs = [sdB b l bg st vm vw, mkB vm m]) := by
  have hc := hasFalse_af m
  cases bg
  · clear h hc
    refine ag_enter (2) tok Try.func13 Try.ntmps13 Try.results13 rfl (by kernel_rfl) rfl fun F => ?_
    repeat (first | refine gG ?_ | refine zN1 (fun hlen => ?_) | refine zN2 (fun hlen => ?_) | refine zAp (fun _ => ?_))
    refine zG ?_
    exact ⟨rfl, rfl⟩
  · have h2 : (m.any fun a => !a) = true := by simpa using h
    rw [h2] at hc
    clear h h2
    refine ag_enter (2) tok Try.func13 Try.ntmps13 Try.results13 rfl (by kernel_rfl) rfl fun F => ?_
    repeat (first | refine gG ?_ | refine zN1 (fun hlen => ?_) | refine zN2 (fun hlen => ?_) | refine zAp (fun _ => ?_))
    refine zPeek (hc) ?_
    rintro _ rfl
    refine ⟨rfl, ?_⟩
    repeat (first | refine gG ?_ | refine zN1 (fun hlen => ?_) | refine zN2 (fun hlen => ?_) | refine zAp (fun _ => ?_))
    refine zG ?_
    exact ⟨rfl, rfl⟩
set_option maxRecDepth 100000 in
set_option maxHeartbeats 4000000 in
theorem tell_yes (b : Nat) (l : List Int) (st : Int) (vm vw : Value) (m : List Bool) (S : List (Value × List Int)) (h : (m.any fun a => !a) = false) (h8 : S.length ≤ 8) (h200 : ∀ x ∈ S, x.2.length ≤ 200) : AG Try.prog 13 [.ptr 0 b 0] (sdB b l true st vm vw :: mkB vm m :: owB vw S :: S.map inB) (fun r hs => r = .tup [.c (.lit (.int .i64 st)), .c (.row S.length 1 (rowsT S)), .c (.lit (.int .i64 0))] ∧ hs = sdB b l true st vm vw :: mkB vm m :: owB vw S :: S.map inB) := by
  have hc := hasFalse_af m
  rw [h] at hc
  clear h
  refine ag_enter (3 + S.length) tok Try.func13 Try.ntmps13 Try.results13 rfl (by kernel_rfl) rfl fun F => ?_
  repeat (first | refine gG ?_ | refine zN1 (fun hlen => ?_) | refine zN2 (fun hlen => ?_) | refine zAp (fun _ => ?_))
  refine zPeek (hc) ?_
  rintro _ rfl
  refine ⟨rfl, ?_⟩
  repeat (first | refine gG ?_ | refine zN1 (fun hlen => ?_) | refine zN2 (fun hlen => ?_) | refine zAp (fun _ => ?_))
  refine x_ownP 5 22 1 3 (hp' := sdB b l true st vm vw :: mkB vm m :: owB vw S :: .row (.slice none 0 0) 22 1 0 [] :: S.map inB) (((List.perm_append_comm (l₁ := S.map inB)).cons _).cons _ |>.cons _) ?_
  refine x_loop [5, 7, 25, 26, 27, 28, 29, 30, 31, 32, 33, 34] (fun y : Nat × Value => [(25, .c (.lit (.int .i64 (y.1 : Nat)))), (5, .own 3 y.2)]) (fun y => sdB b l true st vm vw :: mkB vm m :: owB vw S :: .row y.2 22 1 (S.take y.1).length (rowsT (S.take y.1)) :: S.map inB) (fun y => y.1 ≤ S.length) (fun y => S.length - y.1) (0, .slice none 0 0) (Nat.zero_le _) ⟨rfl, rfl, trivial⟩ rfl ?_
  rintro ⟨k, v⟩ hk
  dsimp only at hk ⊢
  repeat (first | refine gG ?_ | refine zN1 (fun hlen => ?_) | refine zN2 (fun hlen => ?_) | refine zAp (fun _ => ?_))
  refine x_cond rfl (fun h => ?_) (fun h => ?_)
  · have hk' : k < S.length := by simpa using h
    obtain ⟨x, hx⟩ := nth hk'
    have hat := vl_at hx
    have hrow := fam_at inB hx
    have hC := cloneInt_ag x.2 (by have := h200 x (List.mem_of_getElem? hx); omega)
    have hsn := rowsT_snoc hx
    have hl1 := take_len1 hk'
    have hle : (S.take k).length ≤ 8 := by rw [List.length_take]; omega
    clear h hx h200
    obtain ⟨xv, x⟩ := x
    dsimp only at hat hrow hC hsn
    repeat (first | refine gG ?_ | refine zN1 (fun hlen => ?_) | refine zN2 (fun hlen => ?_) | refine zAp (fun _ => ?_))
    refine zIxo k hk' ?_
    repeat (first | refine gG ?_ | refine zN1 (fun hlen => ?_) | refine zN2 (fun hlen => ?_) | refine zAp (fun _ => ?_))
    refine lo_as (k + 4) (zElo1 hat ⟨_, _, _, _, _, rfl, hrow, ?_⟩)
    repeat (first | refine gG ?_ | refine zN1 (fun hlen => ?_) | refine zN2 (fun hlen => ?_) | refine zAp (fun _ => ?_))
    refine zPeekC hC (fun r hs h => h) (flat_ints x) ?_ rfl (rz2s_cons (rz2_own (rz_own hrow)) rz2s_nil)
    repeat (first | refine gG ?_ | refine zN1 (fun hlen => ?_) | refine zN2 (fun hlen => ?_) | refine zAp (fun _ => ?_))
    refine zApS (fun v' => ?_)
    repeat (first | refine gG ?_ | refine zN1 (fun hlen => ?_) | refine zN2 (fun hlen => ?_) | refine zAp (fun _ => ?_))
    refine ⟨(k + 1, v'), hk', by simp only; omega, x_wk ⟨rfl, rfl, trivial⟩ ?_ (by repeat (first | exact ag_refl | refine ag_upd rfl ?_ | refine ag_at rfl rfl ?_))⟩
    simp only [hl1, hsn]
    rfl
  · have hk' : k = S.length := by have : ¬ k < S.length := by simpa using h
                                  omega
    subst hk'
    rw [List.take_length]
    refine x_fzS 5 ?_ rfl rfl
    refine x_perm (hp' := sdB b l true st vm vw :: mkB vm m :: owB vw S :: (S.map inB ++ [Blk.dead])) (perm3 _ _ _ _ _) ?_
    repeat (first | refine gG ?_ | refine zN1 (fun hlen => ?_) | refine zN2 (fun hlen => ?_) | refine zAp (fun _ => ?_))
    refine zGS (hq := sdB b l true st vm vw :: mkB vm m :: owB vw S :: S.map inB) ?_ ⟨rfl, rfl⟩
    have e : 3 + S.length = (sdB b l true st vm vw :: mkB vm m :: owB vw S :: S.map inB).length := by simp; omega
    rw [e]
    exact List.take_left (l₂ := [Blk.dead])
end Go.Proofs.Ytdogdjcjmhogmaa
namespace Go.Proofs.Ytdogdjcjmhogmaa
open Go.RowKit
theorem posI_some {l : List Int} {p : Int} (h : p ∈ l) : ∃ i : Nat, posI l p = (i : Int) ∧ l[i]? = some p := by
  unfold posI
  rcases idxI_find (fun a => decide (p = a)) l with ⟨_, h1⟩ | ⟨k, m, h1, h2, h3, h4⟩
  · rw [List.find?_eq_none] at h1
    exact absurd (decide_eq_true rfl) (h1 p h)
  · have := List.find?_some h4
    exact ⟨k, h1, by rw [h3, ← of_decide_eq_true this]⟩
end Go.Proofs.Ytdogdjcjmhogmaa
namespace Go.Proofs.Ytdogdjcjmhogmaa
open Go.RowKit
structure Ch where
  sent : List Int
  got : Nat
  mark : Int
  came : Bool
  atB : Nat
structure Qs where
  now : List Int
  ch : Nat → Nat → Ch
  bg : Nat → Bool
  st : Nat → Int
structure Md where
  kind : Int
  src : Int
  dst : Int
  n : Int
def ch0 : Ch := ⟨[], 0, -1, false, 0⟩
def startQ (l : List Int) : Qs := ⟨l, fun _ _ => ch0, fun _ => false, fun _ => 0⟩
def w64 (z : Int) : Int := IntKind.wrap .i64 z
theorem w64_add (a b : Int) : w64 (w64 a + b) = w64 (a + b) := by
  unfold w64
  rw [IntKind.wrap_i64, IntKind.wrap_i64, IntKind.wrap_i64]
  omega
def begC (i a b : Nat) (c : Ch) : Ch := { c with mark := if a = i then ((c.sent.length : Nat) : Int) else c.mark, atB := if b = i then c.got else c.atB }
def begQ (i : Nat) (Q : Qs) : Qs := if Q.bg i = true then Q else ⟨Q.now, fun a b => begC i a b (Q.ch a b), updN Q.bg i true, updN Q.st i (Q.now.getD i 0)⟩
def updC (f : Nat → Nat → Ch) (a b : Nat) (c : Ch) : Nat → Nat → Ch := fun a' b' => if a' = a ∧ b' = b then c else f a' b'
theorem updC_at {f : Nat → Nat → Ch} {a b : Nat} {c : Ch} : updC f a b c a b = c := if_pos ⟨rfl, rfl⟩
/-- the marker is in the channel -/
def pend (c : Ch) : Bool := decide (0 ≤ c.mark) && !c.came
def thereC (c : Ch) : Int := ((c.sent.length : Nat) : Int) - (c.got : Nat) + if pend c then 1 else 0
def isP (n : Nat) (i : Int) : Prop := 0 ≤ i ∧ i < n
instance (n : Nat) (i : Int) : Decidable (isP n i) := inferInstanceAs (Decidable (_ ∧ _))
def payQ (a b : Nat) (z : Int) (Q : Qs) : Qs := { Q with now := Q.now.set a (w64 (Q.now.getD a 0 - z)), ch := updC Q.ch a b { Q.ch a b with sent := (Q.ch a b).sent ++ [z] } }
def msgQ (a b : Nat) (Q : Qs) : Qs := { Q with now := Q.now.set b (w64 (Q.now.getD b 0 + (Q.ch a b).sent.getD (Q.ch a b).got 0)), ch := updC Q.ch a b { Q.ch a b with got := (Q.ch a b).got + 1 } }
def mrkQ (a b : Nat) (Q : Qs) : Qs := begQ b { Q with ch := updC Q.ch a b { Q.ch a b with came := true } }
def stepQ (n : Nat) (d : Md) (Q : Qs) : Qs :=
  if isP n d.src then
    if d.kind = 3 then begQ d.src.toNat Q
    else if isP n d.dst ∧ d.dst ≠ d.src then
      if d.kind = 1 then if 0 < d.n ∧ d.n ≤ Q.now.getD d.src.toNat 0 ∧ thereC (Q.ch d.src.toNat d.dst.toNat) < 200 then payQ d.src.toNat d.dst.toNat d.n Q else Q
      else if d.kind = 2 then
        if (Q.ch d.src.toNat d.dst.toNat).mark = ((Q.ch d.src.toNat d.dst.toNat).got : Nat) ∧ (Q.ch d.src.toNat d.dst.toNat).came = false then mrkQ d.src.toNat d.dst.toNat Q
        else if (Q.ch d.src.toNat d.dst.toNat).got < (Q.ch d.src.toNat d.dst.toNat).sent.length then msgQ d.src.toNat d.dst.toNat Q
        else Q
      else Q
    else Q
  else Q
/-- what is in a channel -/
def quC (c : Ch) : List Int := if pend c = true then (c.sent.take c.mark.toNat).drop c.got ++ ((-1) :: c.sent.drop c.mark.toNat) else c.sent.drop c.got
/-- what the one who gets has written down of a channel -/
def recC (bg : Bool) (c : Ch) : List Int := if bg = true then (if c.came = true then (c.sent.take c.mark.toNat).drop c.atB else (c.sent.take c.got).drop c.atB) else []
/-- what holds of a channel from one to another one -/
structure COk (k : Nat) (ba bb : Bool) (c : Ch) : Prop where
  pos : ∀ z ∈ c.sent, 0 < z
  gs : c.got ≤ c.sent.length
  mq : ba = true → 0 ≤ c.mark ∧ c.mark ≤ (c.sent.length : Nat)
  mn : ba = false → c.mark = -1
  cm : c.came = true → ba = true ∧ bb = true ∧ c.mark ≤ (c.got : Nat)
  pn : ba = true → c.came = false → (c.got : Int) ≤ c.mark
  ab : bb = true → c.atB ≤ c.got
  ct : c.sent.length + c.got + (if bb = true then 1 else 0) ≤ k
structure QOk (n k : Nat) (Q : Qs) : Prop where
  nl : Q.now.length = n
  ch : ∀ a b : Nat, COk k (Q.bg a) (Q.bg b) (Q.ch a b)
theorem pend_iff {k : Nat} {ba bb : Bool} {c : Ch} (h : COk k ba bb c) : pend c = (ba && !c.came) := by
  unfold pend
  cases ba with
  | true => rw [decide_eq_true (h.mq rfl).1]
  | false => rw [decide_eq_false (by have := h.mn rfl; omega)]
theorem COk.mono {k k' : Nat} {ba bb : Bool} {c : Ch} (h : COk k ba bb c) (hk : k ≤ k') : COk k' ba bb c := ⟨h.pos, h.gs, h.mq, h.mn, h.cm, h.pn, h.ab, Nat.le_trans h.ct hk⟩
theorem start_q (l : List Int) : QOk l.length 0 (startQ l) := by
  refine ⟨rfl, fun a b => ⟨?_, ?_, ?_, ?_, ?_, ?_, ?_, ?_⟩⟩ <;> simp [startQ, ch0]
section
variable {k : Nat} {ba bb : Bool} {c : Ch}
theorem qu_len (h : COk k ba bb c) : ((quC c).length : Int) = thereC c := by
  have hp := pend_iff h
  have hg := h.gs
  unfold quC thereC
  rw [hp]
  cases ba with
  | false => simp; omega
  | true =>
    obtain ⟨h1, h2⟩ := h.mq rfl
    cases hc : c.came with
    | true => simp; omega
    | false =>
      have := h.pn rfl hc
      simp
      omega
theorem qu_pay (h : COk k ba bb c) (z : Int) : quC { c with sent := c.sent ++ [z] } = quC c ++ [z] := by
  have hg := h.gs
  have e : pend { c with sent := c.sent ++ [z] } = pend c := rfl
  unfold quC
  rw [e]
  dsimp only
  rw [List.drop_append_of_le_length hg]
  split
  · rename_i hpe
    rw [pend_iff h] at hpe
    have hba : ba = true := by cases ba <;> simp_all
    obtain ⟨h1, h2⟩ := h.mq hba
    rw [List.take_append_of_le_length (by omega), List.drop_append_of_le_length (by omega), List.append_assoc]
    rfl
  · rfl
theorem qu_beg (h : COk k false bb c) (i b : Nat) : quC (begC i i b c) = quC c ++ [-1] := by
  have hg := h.gs
  have hc : c.came = false := by
    cases hc : c.came with
    | false => rfl
    | true => exact absurd (h.cm hc).1 (by simp)
  have e1 : pend c = false := by rw [pend_iff h]; rfl
  have e2 : pend (begC i i b c) = true := by
    unfold pend begC
    rw [if_pos rfl]
    simp [hc]
  unfold quC
  rw [e1, e2]
  simp [begC]
theorem qu_beg2 {i a b : Nat} (ha : a ≠ i) : quC (begC i a b c) = quC c := by
  have e : pend (begC i a b c) = pend c := by unfold pend begC; rw [if_neg ha]
  unfold quC
  rw [e]
  unfold begC
  dsimp only
  rw [if_neg ha]
theorem qu_mrk (h : COk k ba bb c) (h1 : c.mark = (c.got : Nat)) (h2 : c.came = false) : quC c = (-1) :: quC { c with came := true } := by
  have e1 : pend c = true := by unfold pend; rw [h1, h2]; simp
  have e2 : pend { c with came := true } = false := by unfold pend; simp
  unfold quC
  rw [e1, e2, h1]
  simp
theorem qu_msg (h : COk k ba bb c) (h1 : ¬ (c.mark = (c.got : Nat) ∧ c.came = false)) (h2 : c.got < c.sent.length) : quC c = c.sent.getD c.got 0 :: quC { c with got := c.got + 1 } := by
  have e : pend { c with got := c.got + 1 } = pend c := rfl
  have hgd : c.sent.getD c.got 0 = c.sent[c.got] := by rw [List.getD_eq_getElem?_getD, List.getElem?_eq_getElem h2]; rfl
  unfold quC
  rw [e, hgd]
  dsimp only
  split
  · rename_i hpe
    rw [pend_iff h] at hpe
    have hba : ba = true := by cases ba <;> simp_all
    have hca : c.came = false := by cases hc : c.came <;> simp_all
    obtain ⟨h3, h4⟩ := h.mq hba
    have h5 := h.pn hba hca
    have h6 : ¬ c.mark = (c.got : Nat) := fun e => h1 ⟨e, hca⟩
    rw [List.drop_eq_getElem_cons (by rw [List.length_take]; omega), List.getElem_take]
    rfl
  · exact List.drop_eq_getElem_cons h2
theorem qu_none (h : COk k ba bb c) (h1 : ¬ (c.mark = (c.got : Nat) ∧ c.came = false)) (h2 : ¬ c.got < c.sent.length) : quC c = [] := by
  have hg := h.gs
  have e : pend c = false := by
    rw [pend_iff h]
    cases ba with
    | false => rfl
    | true =>
      cases hc : c.came with
      | true => rfl
      | false =>
        have := h.pn rfl hc
        have := h.mq rfl
        exact absurd ⟨by omega, hc⟩ h1
  unfold quC
  rw [e]
  simp
  omega
theorem qu_pos (h : COk k ba bb c) : ∀ z ∈ c.sent, z ≠ -1 := fun z hz => by have := h.pos z hz; omega
theorem rec_pay (h : COk k ba bb c) (z : Int) : recC bb { c with sent := c.sent ++ [z] } = recC bb c := by
  have hg := h.gs
  unfold recC
  dsimp only
  split
  · split
    · rename_i hb hc
      have := h.cm hc
      obtain ⟨h3, h4⟩ := h.mq this.1
      rw [List.take_append_of_le_length (by omega)]
    · rw [List.take_append_of_le_length hg]
  · rfl
theorem rec_beg (h : COk k ba false c) (i a : Nat) : recC true (begC i a i c) = [] := by
  have hg := h.gs
  have hc : c.came = false := by
    cases hc : c.came with
    | false => rfl
    | true => exact absurd (h.cm hc).2.1 (by simp)
  unfold recC begC
  dsimp only
  rw [if_pos rfl, if_pos rfl, hc]
  simp
theorem rec_begm {i a : Nat} (ha : a ≠ i) (h1 : c.mark = (c.got : Nat)) : recC true (begC i a i { c with came := true }) = [] := by
  unfold recC begC
  dsimp only
  rw [if_pos rfl, if_pos rfl, if_pos rfl, if_neg ha, h1]
  simp
theorem rec_beg2 (h : COk k ba bb c) {i a b : Nat} (hb : b ≠ i) (hi : a = i → ba = false) : recC bb (begC i a b c) = recC bb c := by
  unfold recC begC
  dsimp only
  rw [if_neg hb]
  split
  · split
    · rename_i hc
      have := (h.cm hc).1
      rw [if_neg (fun e => by rw [hi e] at this; cases this)]
    · rfl
  · rfl
theorem rec_mrk (h1 : c.mark = (c.got : Nat)) (h2 : c.came = false) : recC bb { c with came := true } = recC bb c := by
  unfold recC
  dsimp only
  rw [h1, h2]
  simp
theorem rec_msg (h : COk k ba bb c) (h2 : c.got < c.sent.length) : recC bb { c with got := c.got + 1 } = if (bb && !c.came) = true then recC bb c ++ [c.sent.getD c.got 0] else recC bb c := by
  have hgd : c.sent.getD c.got 0 = c.sent[c.got] := by rw [List.getD_eq_getElem?_getD, List.getElem?_eq_getElem h2]; rfl
  unfold recC
  cases bb with
  | false => rfl
  | true =>
    have ha := h.ab rfl
    cases hc : c.came with
    | true => simp
    | false =>
      simp only [Bool.not_false, Bool.and_true, if_true, Bool.false_eq_true, if_false]
      rw [List.take_succ_eq_append_getElem h2, List.drop_append_of_le_length (by rw [List.length_take]; omega), hgd]
theorem rec_len (h : COk k ba bb c) (hb : bb = true) : (recC bb c).length + c.sent.length + 1 ≤ k ∨ recC bb c = [] := by
  have hct := h.ct
  have hg := h.gs
  rw [if_pos hb] at hct
  left
  unfold recC
  rw [if_pos hb]
  split
  · rename_i hc
    have := (h.cm hc).2.2
    simp
    omega
  · simp
    omega
end
section
variable {n k : Nat} {Q : Qs}
theorem bg_upd {i : Nat} (a : Nat) : updN Q.bg i true a = if a = i then true else Q.bg a := rfl
theorem beg_q (h : QOk n k Q) (i : Nat) : QOk n (k + 1) (begQ i Q) := by
  unfold begQ
  split
  · exact ⟨h.nl, fun a b => (h.ch a b).mono (by omega)⟩
  · rename_i hi
    have hi : Q.bg i = false := by cases hb : Q.bg i <;> simp_all
    refine ⟨h.nl, fun a b => ?_⟩
    have hc := h.ch a b
    dsimp only
    have hg := hc.gs
    have hca : a = i → (Q.ch a b).came = false := fun e => by
      cases hx : (Q.ch a b).came with
      | false => rfl
      | true => have := (hc.cm hx).1; rw [e, hi] at this; cases this
    have hcb : b = i → (Q.ch a b).came = false := fun e => by
      cases hx : (Q.ch a b).came with
      | false => rfl
      | true => have := (hc.cm hx).2.1; rw [e, hi] at this; cases this
    refine ⟨hc.pos, hc.gs, fun ha => ?_, fun ha => ?_, fun hx => ?_, fun ha hx => ?_, fun hb => ?_, ?_⟩
    · unfold begC
      dsimp only
      by_cases e : a = i
      · rw [if_pos e]; omega
      · rw [if_neg e]
        exact hc.mq (by unfold updN at ha; rw [if_neg e] at ha; exact ha)
    · unfold begC
      dsimp only
      by_cases e : a = i
      · rw [bg_upd, if_pos e] at ha; cases ha
      · rw [if_neg e]
        exact hc.mn (by rw [bg_upd, if_neg e] at ha; exact ha)
    · have hx' : (Q.ch a b).came = true := hx
      obtain ⟨h1, h2, h3⟩ := hc.cm hx'
      have e1 : a ≠ i := fun e => by rw [hca e] at hx'; cases hx'
      have e2 : b ≠ i := fun e => by rw [hcb e] at hx'; cases hx'
      rw [bg_upd, bg_upd, if_neg e1, if_neg e2]
      unfold begC
      dsimp only
      rw [if_neg e1]
      exact ⟨h1, h2, h3⟩
    · unfold begC at hx ⊢
      dsimp only at hx ⊢
      by_cases e : a = i
      · rw [if_pos e]; omega
      · rw [if_neg e]
        exact hc.pn (by rw [bg_upd, if_neg e] at ha; exact ha) hx
    · unfold begC
      dsimp only
      by_cases e : b = i
      · rw [if_pos e]; exact Nat.le_refl _
      · rw [if_neg e]
        exact hc.ab (by rw [bg_upd, if_neg e] at hb; exact hb)
    · have hct := hc.ct
      show (Q.ch a b).sent.length + (Q.ch a b).got + _ ≤ k + 1
      rw [bg_upd]
      by_cases e : b = i
      · rw [if_pos e, if_pos rfl]
        split at hct <;> omega
      · rw [if_neg e]
        omega
theorem upd_q (h : QOk n k Q) {a b : Nat} {c : Ch} {now : List Int} (hn : now.length = n) (hc : COk (k + 1) (Q.bg a) (Q.bg b) c) : QOk n (k + 1) ⟨now, updC Q.ch a b c, Q.bg, Q.st⟩ := by
  refine ⟨hn, fun a' b' => ?_⟩
  dsimp only
  unfold updC
  split
  · rename_i e
    rw [e.1, e.2]; exact hc
  · exact (h.ch a' b').mono (by omega)
theorem pay_q (h : QOk n k Q) (a b : Nat) {z : Int} (hz : 0 < z) : QOk n (k + 1) (payQ a b z Q) := by
  have hc := h.ch a b
  refine upd_q h (by rw [List.length_set]; exact h.nl) ⟨fun y hy => ?_, ?_, fun ha => ?_, hc.mn, hc.cm, hc.pn, hc.ab, ?_⟩
  · rcases List.mem_append.1 hy with hy | hy
    · exact hc.pos y hy
    · rw [List.mem_singleton.1 hy]; exact hz
  · have := hc.gs
    show (Q.ch a b).got ≤ ((Q.ch a b).sent ++ [z]).length
    rw [List.length_append]; omega
  · have := hc.mq ha
    show 0 ≤ (Q.ch a b).mark ∧ (Q.ch a b).mark ≤ ((((Q.ch a b).sent ++ [z]).length : Nat) : Int)
    rw [List.length_append]; omega
  · have := hc.ct
    rw [List.length_append, List.length_singleton]
    dsimp only
    omega
theorem msg_q (h : QOk n k Q) (a b : Nat) (h1 : ¬ ((Q.ch a b).mark = ((Q.ch a b).got : Nat) ∧ (Q.ch a b).came = false)) (h2 : (Q.ch a b).got < (Q.ch a b).sent.length) : QOk n (k + 1) (msgQ a b Q) := by
  have hc := h.ch a b
  refine upd_q h (by rw [List.length_set]; exact h.nl) ⟨hc.pos, h2, hc.mq, hc.mn, fun hx => ?_, fun ha hx => ?_, fun hb => ?_, ?_⟩
  · obtain ⟨h3, h4, h5⟩ := hc.cm hx
    exact ⟨h3, h4, by dsimp only; omega⟩
  · have := hc.pn ha hx
    have h6 : ¬ (Q.ch a b).mark = ((Q.ch a b).got : Nat) := fun e => h1 ⟨e, hx⟩
    dsimp only
    omega
  · have := hc.ab hb
    dsimp only
    omega
  · have := hc.ct
    dsimp only
    omega
theorem mrk_q (h : QOk n k Q) (a b : Nat) (h1 : (Q.ch a b).mark = ((Q.ch a b).got : Nat)) (h2 : (Q.ch a b).came = false) : QOk n (k + 1) (mrkQ a b Q) := by
  have hc := h.ch a b
  have hba : Q.bg a = true := by
    cases hb : Q.bg a with
    | true => rfl
    | false => have := hc.mn hb; omega
  unfold mrkQ begQ
  dsimp only
  have hC : ∀ bb, (bb = true → (Q.ch a b).atB ≤ (Q.ch a b).got) → bb = Q.bg b → bb = true → COk (k + 1) (Q.bg a) bb { Q.ch a b with came := true } := fun bb hb e hbt => ⟨hc.pos, hc.gs, hc.mq, hc.mn, fun _ => ⟨hba, hbt, by dsimp only; omega⟩, fun _ h => (by cases h), hb, (by have := hc.ct; rw [e]; dsimp only; omega)⟩
  split
  · rename_i hb
    have := hC (Q.bg b) hc.ab rfl hb
    exact upd_q (now := Q.now) h h.nl this
  · rename_i hb
    have hb : Q.bg b = false := by cases hx : Q.bg b <;> simp_all
    have hab : a ≠ b := fun e => by rw [e, hb] at hba; cases hba
    have h0 := beg_q h b
    unfold begQ at h0
    rw [if_neg (by rw [hb]; simp)] at h0
    refine ⟨h0.nl, fun a' b' => ?_⟩
    have hx := h0.ch a' b'
    dsimp only at hx ⊢
    unfold updC
    by_cases e : a' = a ∧ b' = b
    · rw [if_pos e]
      obtain ⟨rfl, rfl⟩ := e
      refine ⟨hx.pos, hx.gs, hx.mq, hx.mn, fun _ => ⟨by rw [bg_upd, if_neg hab]; exact hba, by rw [bg_upd, if_pos rfl], ?_⟩, fun _ h => (by cases h), hx.ab, hx.ct⟩
      unfold begC
      dsimp only
      rw [if_neg hab]
      omega
    · rw [if_neg e]
      exact hx
theorem step_q (h : QOk n k Q) (d : Md) : QOk n (k + 1) (stepQ n d Q) := by
  have h0 : QOk n (k + 1) Q := ⟨h.nl, fun a b => (h.ch a b).mono (by omega)⟩
  unfold stepQ
  split
  · split
    · exact beg_q h _
    · split
      · split
        · split
          · rename_i hx
            exact pay_q h _ _ hx.1
          · exact h0
        · split
          · split
            · rename_i hx
              exact mrk_q h _ _ hx.1 hx.2
            · rename_i hx
              split
              · rename_i hy
                exact msg_q h _ _ hx hy
              · exact h0
          · exact h0
      · exact h0
  · exact h0
theorem steps_q {l : List Int} {ds : List Md} : ∀ k, k ≤ ds.length → QOk l.length k ((ds.take k).foldl (fun Q d => stepQ l.length d Q) (startQ l))
  | 0, _ => start_q l
  | k + 1, hk => by
    have ih := steps_q (l := l) (ds := ds) k (by omega)
    obtain ⟨h1, h2⟩ := List.getElem?_eq_some_iff.1 (nth (show k < ds.length by omega)).choose_spec
    rw [List.take_succ_eq_append_getElem h1, List.foldl_append]
    exact step_q ih _
end
end Go.Proofs.Ytdogdjcjmhogmaa
namespace Go.Proofs.Ytdogdjcjmhogmaa
open Go.RowKit
abbrev WayL := List ((Int × Int) × List Int)
def wayI (k : Int × Int) (W : WayL) : List Int := (gget k W).getD []
def pushI (k : Int × Int) (x : Int) (W : WayL) : WayL := gput k (wayI k W ++ [x]) W
def sprI (i : Nat) (m : Nat) (W : WayL) : WayL := (List.range m).foldl (fun W t => if t = i then W else pushI ((i : Int), (t : Int)) (-1) W) W
theorem sprI_succ (i m : Nat) (W : WayL) : sprI i (m + 1) W = if m = i then sprI i m W else pushI ((i : Int), (m : Int)) (-1) (sprI i m W) := by
  unfold sprI
  rw [List.range_succ, List.foldl_append]
  rfl
/-- what comes out of a channel first -/
def comeW (n : Nat) (a b : Nat) (z : Int) (bgb : Bool) (W1 : WayL) : WayL := if z = -1 then (if bgb = true then W1 else sprI b n W1) else W1
def stepW (n : Nat) (d : Md) (Q : Qs) (W : WayL) : WayL :=
  if isP n d.src then
    if d.kind = 3 then (if Q.bg d.src.toNat = true then W else sprI d.src.toNat n W)
    else if isP n d.dst ∧ d.dst ≠ d.src then
      if d.kind = 1 then if 0 < d.n ∧ d.n ≤ Q.now.getD d.src.toNat 0 ∧ (wayI (d.src, d.dst) W).length < 200 then pushI (d.src, d.dst) d.n W else W
      else if d.kind = 2 then
        match wayI (d.src, d.dst) W with
        | [] => W
        | z :: l => comeW n d.src.toNat d.dst.toNat z (Q.bg d.dst.toNat) (gput (d.src, d.dst) l W)
      else W
    else W
  else W
structure WOk (n : Nat) (ch : Nat → Nat → Ch) (W : WayL) : Prop where
  nd : (W.map (·.1)).Nodup
  ks : ∀ p ∈ W, ∃ a b : Nat, a < n ∧ b < n ∧ a ≠ b ∧ p.1 = ((a : Int), (b : Int))
  qu : ∀ a b : Nat, a < n → b < n → a ≠ b → wayI ((a : Int), (b : Int)) W = quC (ch a b)
theorem wayI_put (k k' : Int × Int) (l : List Int) (W : WayL) : wayI k' (gput k l W) = if k' = k then l else wayI k' W := by
  unfold wayI
  rw [gget_put]
  split <;> rfl
theorem keys_put (k : Int × Int) (l : List Int) : ∀ W : WayL, (gput k l W).map (·.1) = if k ∈ W.map (·.1) then W.map (·.1) else W.map (·.1) ++ [k]
  | [] => by simp [gput]
  | (k', l') :: W => by
    unfold gput
    by_cases h : k = k'
    · subst h; simp
    · rw [if_neg h, List.map_cons, keys_put k l W]
      by_cases h2 : k ∈ W.map (·.1)
      · rw [if_pos h2, if_pos (by simp only [List.map_cons]; exact List.mem_cons_of_mem _ h2)]; rfl
      · rw [if_neg h2, if_neg (by simp only [List.map_cons, List.mem_cons]; rintro (h3 | h3); exact h h3; exact h2 h3)]
        rfl
theorem put_wok {n : Nat} {ch : Nat → Nat → Ch} {W : WayL} (h : WOk n ch W) {a b : Nat} (ha : a < n) (hb : b < n) (hab : a ≠ b) {l : List Int} {ch' : Nat → Nat → Ch} (hl : l = quC (ch' a b)) (hx : ∀ a' b', a' < n → b' < n → a' ≠ b' → ¬ (a' = a ∧ b' = b) → quC (ch' a' b') = quC (ch a' b')) : WOk n ch' (gput ((a : Int), (b : Int)) l W) := by
  refine ⟨?_, fun p hp => ?_, fun a' b' ha' hb' hab' => ?_⟩
  · rw [keys_put]
    split
    · exact h.nd
    · rename_i h2
      rw [List.nodup_append]
      exact ⟨h.nd, by simp, fun x hx y hy e => h2 (by rw [List.mem_singleton] at hy; rw [← hy, ← e]; exact hx)⟩
  · rcases gput_all hp with rfl | hp
    · exact ⟨a, b, ha, hb, hab, rfl⟩
    · exact h.ks p hp
  · rw [wayI_put]
    split
    · rename_i e
      obtain ⟨e1, e2⟩ := Prod.mk.inj e
      have e1 : a' = a := by omega
      have e2 : b' = b := by omega
      rw [e1, e2, hl]
    · rename_i e
      rw [h.qu a' b' ha' hb' hab', hx a' b' ha' hb' hab' (fun h => e (by rw [h.1, h.2]))]
/-- a marker put into every channel of one who begins -/
theorem spr_wok {n k : Nat} {Q : Qs} {W : WayL} (hQ : QOk n k Q) (h : WOk n Q.ch W) {i : Nat} (hi : i < n) (hbi : Q.bg i = false) : ∀ m, m ≤ n → WOk n (fun a b => if a = i ∧ b < m then begC i a b (Q.ch a b) else Q.ch a b) (sprI i m W)
  | 0, _ => by
    have e : (fun a b => if a = i ∧ b < 0 then begC i a b (Q.ch a b) else Q.ch a b) = Q.ch := by
      funext a b
      rw [if_neg (by omega)]
    rw [e]
    exact h
  | m + 1, hm => by
    have ih := spr_wok hQ h hi hbi m (by omega)
    rw [sprI_succ]
    by_cases e : m = i
    · rw [if_pos e]
      refine ⟨ih.nd, ih.ks, fun a b ha hb hab => ?_⟩
      rw [ih.qu a b ha hb hab]
      show quC (if a = i ∧ b < m then _ else _) = quC (if a = i ∧ b < m + 1 then _ else _)
      by_cases e2 : a = i
      · have : b ≠ m := fun e3 => hab (by omega)
        by_cases e4 : b < m
        · rw [if_pos ⟨e2, e4⟩, if_pos ⟨e2, by omega⟩]
        · rw [if_neg (fun h => e4 h.2), if_neg (fun h => by omega)]
      · rw [if_neg (fun h => e2 h.1), if_neg (fun h => e2 h.1)]
    · rw [if_neg e]
      refine put_wok ih hi (by omega) (fun e2 => e e2.symm) ?_ fun a b ha hb hab hne => ?_
      · rw [ih.qu i m hi (by omega) (fun e2 => e e2.symm)]
        rw [if_neg (by omega), if_pos ⟨rfl, by omega⟩]
        have := hQ.ch i m
        rw [hbi] at this
        exact (qu_beg this i m).symm
      · show quC (if a = i ∧ b < m + 1 then _ else _) = quC (if a = i ∧ b < m then _ else _)
        by_cases e2 : a = i
        · have : b ≠ m := fun e3 => hne ⟨e2, e3⟩
          by_cases e4 : b < m
          · rw [if_pos ⟨e2, by omega⟩, if_pos ⟨e2, by omega⟩]
          · rw [if_neg (fun h => by omega), if_neg (fun h => by omega)]
        · rw [if_neg (fun h => e2 h.1), if_neg (fun h => e2 h.1)]
theorem beg_wok {n k : Nat} {Q : Qs} {W : WayL} (hQ : QOk n k Q) (h : WOk n Q.ch W) {i : Nat} (hi : i < n) : WOk n (begQ i Q).ch (if Q.bg i = true then W else sprI i n W) := by
  unfold begQ
  split
  · exact h
  · rename_i hb
    have hbi : Q.bg i = false := by cases hx : Q.bg i <;> simp_all
    have := spr_wok hQ h hi hbi n (Nat.le_refl _)
    refine ⟨this.nd, this.ks, fun a b ha hb hab => ?_⟩
    rw [this.qu a b ha hb hab]
    dsimp only
    by_cases e : a = i
    · rw [if_pos ⟨e, hb⟩]
    · rw [if_neg (fun h => e h.1), qu_beg2 e]
/-- the channels, after a deed -/
theorem step_w {n k : Nat} {Q : Qs} {W : WayL} (hQ : QOk n k Q) (h : WOk n Q.ch W) (d : Md) : WOk n (stepQ n d Q).ch (stepW n d Q W) := by
  unfold stepQ stepW
  by_cases h1 : isP n d.src
  · rw [if_pos h1, if_pos h1]
    obtain ⟨a, ha⟩ : ∃ a : Nat, d.src = (a : Int) := ⟨d.src.toNat, by unfold isP at h1; omega⟩
    have han : a < n := by unfold isP at h1; omega
    have hat : d.src.toNat = a := by omega
    rw [hat]
    by_cases h2 : d.kind = 3
    · rw [if_pos h2, if_pos h2]
      exact beg_wok hQ h han
    · rw [if_neg h2, if_neg h2]
      by_cases h3 : isP n d.dst ∧ d.dst ≠ d.src
      · rw [if_pos h3, if_pos h3]
        obtain ⟨b, hb⟩ : ∃ b : Nat, d.dst = (b : Int) := ⟨d.dst.toNat, by unfold isP at h3; omega⟩
        have hbn : b < n := by have := h3.1; unfold isP at this; omega
        have hbt : d.dst.toNat = b := by omega
        have hab : a ≠ b := fun e => h3.2 (by omega)
        have hc := hQ.ch a b
        rw [hbt, ha, hb, h.qu a b han hbn hab]
        by_cases h4 : d.kind = 1
        · rw [if_pos h4, if_pos h4]
          have hlen := qu_len hc
          by_cases h5 : 0 < d.n ∧ d.n ≤ Q.now.getD a 0 ∧ thereC (Q.ch a b) < 200
          · rw [if_pos h5, if_pos ⟨h5.1, h5.2.1, by omega⟩]
            unfold pushI
            refine put_wok h han hbn hab ?_ fun a' b' _ _ _ hne => ?_
            · rw [h.qu a b han hbn hab]
              unfold payQ
              dsimp only
              rw [updC_at, qu_pay hc]
            · unfold payQ updC
              dsimp only
              rw [if_neg hne]
          · rw [if_neg h5, if_neg (fun h6 => h5 ⟨h6.1, h6.2.1, by omega⟩)]
            exact h
        · rw [if_neg h4, if_neg h4]
          by_cases h5 : d.kind = 2
          · rw [if_pos h5, if_pos h5]
            by_cases h6 : (Q.ch a b).mark = ((Q.ch a b).got : Nat) ∧ (Q.ch a b).came = false
            · rw [if_pos h6, qu_mrk hc h6.1 h6.2]
              unfold comeW mrkQ
              dsimp only
              rw [if_pos rfl]
              have hw1 : WOk n (updC Q.ch a b { Q.ch a b with came := true }) (gput ((a : Int), (b : Int)) (quC { Q.ch a b with came := true }) W) := put_wok h han hbn hab (by rw [updC_at]) fun a' b' _ _ _ hne => by unfold updC; rw [if_neg hne]
              have hba : Q.bg a = true := by
                cases hb : Q.bg a with
                | true => rfl
                | false => have := hc.mn hb; omega
              unfold begQ
              dsimp only
              by_cases hbb : Q.bg b = true
              · rw [if_pos hbb, if_pos hbb]
                exact hw1
              · rw [if_neg hbb, if_neg hbb]
                have hbb : Q.bg b = false := by cases hx : Q.bg b <;> simp_all
                -- the markers of b go into channels that are asq before
                have e1 : ∀ c, quC (updC Q.ch a b { Q.ch a b with came := true } b c) = quC (Q.ch b c) := fun c => by
                  unfold updC
                  rw [if_neg (fun h => hab h.1.symm)]
                have key : ∀ m, m ≤ n → WOk n (fun a' b' => if a' = b ∧ b' < m then begC b a' b' (Q.ch a' b') else updC Q.ch a b { Q.ch a b with came := true } a' b') (sprI b m (gput ((a : Int), (b : Int)) (quC { Q.ch a b with came := true }) W)) := by
                  intro m
                  induction m with
                  | zero =>
                    intro _
                    have e : (fun a' b' => if a' = b ∧ b' < 0 then begC b a' b' (Q.ch a' b') else updC Q.ch a b { Q.ch a b with came := true } a' b') = updC Q.ch a b { Q.ch a b with came := true } := by
                      funext a' b'
                      rw [if_neg (by omega)]
                    rw [e]
                    exact hw1
                  | succ m ihm =>
                    intro hm
                    have ih := ihm (by omega)
                    rw [sprI_succ]
                    by_cases e : m = b
                    · rw [if_pos e]
                      refine ⟨ih.nd, ih.ks, fun a' b' ha' hb' hab' => ?_⟩
                      rw [ih.qu a' b' ha' hb' hab']
                      show quC (if a' = b ∧ b' < m then _ else _) = quC (if a' = b ∧ b' < m + 1 then _ else _)
                      by_cases e2 : a' = b
                      · have : b' ≠ m := fun e3 => hab' (by omega)
                        by_cases e4 : b' < m
                        · rw [if_pos ⟨e2, e4⟩, if_pos ⟨e2, by omega⟩]
                        · rw [if_neg (fun h => e4 h.2), if_neg (fun h => by omega)]
                      · rw [if_neg (fun h => e2 h.1), if_neg (fun h => e2 h.1)]
                    · rw [if_neg e]
                      refine put_wok ih hbn (by omega) (fun e2 => e e2.symm) ?_ fun a' b' ha' hb' hab' hne => ?_
                      · rw [ih.qu b m hbn (by omega) (fun e2 => e e2.symm)]
                        dsimp only
                        rw [if_neg (by omega), if_pos ⟨rfl, by omega⟩, e1]
                        have := hQ.ch b m
                        rw [hbb] at this
                        exact (qu_beg this b m).symm
                      · show quC (if a' = b ∧ b' < m + 1 then _ else _) = quC (if a' = b ∧ b' < m then _ else _)
                        by_cases e2 : a' = b
                        · have : b' ≠ m := fun e3 => hne ⟨e2, e3⟩
                          by_cases e4 : b' < m
                          · rw [if_pos ⟨e2, by omega⟩, if_pos ⟨e2, by omega⟩]
                          · rw [if_neg (fun h => by omega), if_neg (fun h => by omega)]
                        · rw [if_neg (fun h => e2 h.1), if_neg (fun h => e2 h.1)]
                have hk := key n (Nat.le_refl _)
                refine ⟨hk.nd, hk.ks, fun a' b' ha' hb' hab' => ?_⟩
                rw [hk.qu a' b' ha' hb' hab']
                dsimp only
                by_cases e : a' = b
                · rw [if_pos ⟨e, hb'⟩]
                  unfold updC
                  rw [if_neg (fun h => hab (h.1.symm.trans e))]
                · rw [if_neg (fun h => e h.1), qu_beg2 e]
            · rw [if_neg h6]
              by_cases h7 : (Q.ch a b).got < (Q.ch a b).sent.length
              · rw [if_pos h7, qu_msg hc h6 h7]
                unfold comeW
                dsimp only
                have hne : (Q.ch a b).sent.getD (Q.ch a b).got 0 ≠ -1 := qu_pos hc _ (getD_mem h7)
                rw [if_neg hne]
                refine put_wok h han hbn hab ?_ fun a' b' _ _ _ hne => ?_
                · unfold msgQ
                  dsimp only
                  rw [updC_at]
                · unfold msgQ updC
                  dsimp only
                  rw [if_neg hne]
              · rw [if_neg h7, qu_none hc h6 h7]
                exact h
          · rw [if_neg h5, if_neg h5]
            exact h
      · rw [if_neg h3, if_neg h3]
        exact h
  · rw [if_neg h1, if_neg h1]
    exact h
theorem start_w (l : List Int) : WOk l.length (startQ l).ch [] := by
  refine ⟨by simp, fun p hp => (by cases hp), fun a b _ _ _ => ?_⟩
  simp [startQ, ch0, quC, pend, wayI, gget]
end Go.Proofs.Ytdogdjcjmhogmaa
namespace Go.Proofs.Ytdogdjcjmhogmaa
open Go.RowKit
theorem rt_nth {M : Mm} : ∀ {ts : List T} {us : List Value} {j : Nat} {t : T} {u : Value}, RTs M ts us → ts[j]? = some t → us[j]? = some u → RT M t u
  | [], us, j, t, u, _, ht, _ => by simp at ht
  | t0 :: ts, us, j, t, u, h, ht, hu => by
    simp only [RTs] at h
    obtain ⟨u0, us', rfl, h0, hs⟩ := h
    cases j with
    | zero =>
      simp at ht hu
      rw [← ht, ← hu]; exact h0
    | succ j => exact rt_nth hs (by simpa using ht) (by simpa using hu)
section
variable {P : Program} {F : Frm} {L : Tab} {d : Option Tmp} {ty : TypeId} {pos : String} {aft : Array Edge} {g : Option (Nat × Bool)} {ρ : Operand → AV} {hp : List Blk} {K : AV → List Blk → Prop}
variable {α : Type} [DecidableEq α] {κ : α → Value} {xT kT eT : TypeId} {x y z : Operand} {i b : Nat} {l : List (α × T)} {k : α} {te : TI}
theorem lo_mapEntry_rv {zt : T} (hκ : KeyR P kT κ) (hL : TabOk P L) (hu : P.underlying xT = some (.map kT eT)) (hte : L.look eT = some te) (ha : ZeroT te zt) (hx : ρ x = .own i (.map (some b))) (hi : hp[i]? = some (.mp b (mkeys κ l))) (hy : ∀ M u, RA M (ρ y) u → u = κ k)
    (h : ∀ (l1 : List (α × T)) (j : Nat) (st : List Nat) (c : Nat) (v : T), l1[j]? = some (k, v) → j < st.length → (∀ t, l1.set j (k, t) = mput k t l) → mget k l1 = some ((mget k l).getD zt) → K (.tup [.c v, .c (.lit (.int .i64 ((st.getD j 0 : Nat) : Int)))]) (hp.set i (.mpx b (mkeys κ l1) (some (st, c))))) :
    LO P F ⟨d, .mapEntry xT x y, ty, pos, aft, g⟩ ρ hp K := by
  refine ⟨fun M e w he hh => ?_⟩
  have h1 := he x (by first | (simp [Op.operands]; done) | simp [Op.operands, Call.operands])
  rw [hx] at h1
  simp only [RA] at h1
  have h2 := hy M _ (he y (by first | (simp [Op.operands]; done) | simp [Op.operands, Call.operands]))
  obtain ⟨es, clock, hb, hkeys, hvals, hstm, hst⟩ := hh.at_ i _ hi
  have hkeys' : es.map (·.key) = l.map (fun p => κ p.1) := by rw [hkeys]; simp [mkeys]
  have hvals' : RTs M (l.map (·.2)) (es.map (·.val)) := by simpa [mkeys, Function.comp_def] using hvals
  have hlt : b < w.heap.size := (Array.getElem?_eq_some_iff.1 hb).1
  have hil : i < hp.length := (List.getElem?_eq_some_iff.1 hi).1
  obtain ⟨es', clock', l1, j, v, u0, hrun, hke, hva, hsm, hj, hjl, hput, hgt, hv0⟩ : ∃ (es' : List MapEntry) (clock' : Nat) (l1 : List (α × T)) (j : Nat) (v : T) (u0 : Value), (execOp e ⟨d, .mapEntry xT x y, ty, pos, aft, g⟩).run P w = .ok (.value (.tuple #[u0, .int .i64 (((es'.map (·.born)).getD j 0 : Nat) : Int)])) { w with heap := w.heap.setIfInBounds b (.map es'.toArray clock') } ∧ es'.map (·.key) = (mkeys κ l1).map (·.1) ∧ RTs M ((mkeys κ l1).map (·.2)) (es'.map (·.val)) ∧ Stm es' clock' ∧ l1[j]? = some (k, v) ∧ j < es'.length ∧ (∀ t, l1.set j (k, t) = mput k t l) ∧ mget k l1 = some ((mget k l).getD zt) ∧ RT M v u0 := by
    rcases hκ.find w k l es hkeys' with ⟨f1, f2, f3, _⟩ | ⟨j, e', t', f1, f2, f3, f4, f5, _⟩
    · obtain ⟨inf, zv, g1, _, _, g2, g3, g4, g5⟩ := hL.info hte
      have hzt : RT M zt zv := by
        rcases ha with ⟨ha, rfl⟩ | ⟨ha, z0, hz, rfl⟩
        · rw [ha] at g5
          obtain ⟨a, rfl⟩ : ∃ a, zv = .agg a := by cases zv <;> simp_all
          have hza : a.toList = te.zero := g3
          simp only [RT]
          exact ⟨te.zero, by rw [← hza], lits_rts M te.zero⟩
        · have hzv : zv = z0 := by
            rw [ha] at g5
            rw [hz] at g3
            cases zv <;> simp_all [Value.cells]
          simp only [RT]
          exact hzv
      have hzr : (zeroValue eT).run P w = .ok zv w := by simp [zeroValue, typeInfo, g1, g2]
      have hlen : es.length = l.length := by
        have := congrArg List.length hkeys'
        simpa using this
      refine ⟨es ++ [⟨κ k, zv, clock⟩], clock + 1, l ++ [(k, zt)], es.length, zt, zv, ?_, ?_, ?_, ⟨?_, ?_⟩, ?_, ?_, fun t => ?_, by rw [mget_snoc f2, f2]; rfl, hzt⟩
      · have hg : (List.map (·.born) (es ++ [(⟨κ k, zv, clock⟩ : MapEntry)])).getD es.length 0 = clock := by simp [List.getD]
        rw [hg]
        simp [execOp, Instr.mapEntry, h1.1, h2, run_underlying hu, MapKept.run_getObj_map hb, hκ.check, f1, hzr, MapKept.run_setObj_map _ hb, goInt]
      · simp [mkeys, hkeys']
      · have : RTs M (l.map (·.2) ++ [zt]) (es.map (·.val) ++ [zv]) := hvals'.app (by simp only [RTs]; exact ⟨_, _, rfl, hzt, rfl⟩)
        simpa [mkeys, Function.comp_def] using this
      · rw [List.map_append, List.nodup_append]
        refine ⟨hstm.1, by simp, fun a ha b hb => ?_⟩
        obtain ⟨x, hx, rfl⟩ := List.mem_map.1 ha
        have := hstm.2 x hx
        simp only [List.map_cons, List.map_nil, List.mem_singleton] at hb
        omega
      · intro x hx
        rcases List.mem_append.1 hx with hx | hx
        · have := hstm.2 x hx; omega
        · rw [List.mem_singleton.1 hx]; simp only; omega
      · rw [hlen]; simp
      · simp
      · rw [f3, hlen]; simp
    · have hek : e'.key = κ k := by
        have := congrArg (fun l => l[j]?) hkeys'
        simp only [List.getElem?_map, f2, f3, Option.map_some, Option.some.injEq] at this
        exact this
      have hjl : j < es.length := (List.getElem?_eq_some_iff.1 f2).1
      refine ⟨es, clock, l, j, t', e'.val, ?_, ?_, ?_, hstm, f3, hjl, fun t => (f5 t).symm, by rw [f4]; rfl, rt_nth hvals' (by rw [List.getElem?_map, f3]; rfl) (by rw [List.getElem?_map, f2]; rfl)⟩
      · have hm : es.modify j (fun q => { q with key := κ k }) = es := by
          rw [set_modify es j _ f2]
          obtain ⟨hj1, hj2⟩ := List.getElem?_eq_some_iff.1 f2
          rw [show ({ e' with key := κ k } : MapEntry) = es[j] by rw [hj2, ← hek]]
          exact List.set_getElem_self _
        have hg : (List.map (·.born) es).getD j 0 = e'.born := by simp [List.getD, f2]
        rw [hg]
        simp [execOp, Instr.mapEntry, h1.1, h2, run_underlying hu, MapKept.run_getObj_map hb, hκ.check, f1, f2, hek, hκ.stays, MapKept.run_setObj_map _ hb, hm, goInt]
      · rw [hkeys]
      · exact hvals
  rw [hrun]
  refine ⟨M, _, _, h l1 j (es'.map (·.born)) clock' v hj (by simpa using hjl) hput hgt, Ext.refl _ _, ?_, by simp only [RA, RAs, RT]; exact ⟨_, rfl, _, _, rfl, hv0, _, _, rfl, rfl, rfl⟩⟩
  refine hh.step i rfl rfl rfl (by simp) (fun c hc hne => ?_) (Ext.refl _ _) (fun p v h1 h2 => by rw [h2] at h1; cases h1) (fun j hj => by rw [List.getElem?_set_ne (Ne.symm hj)]) (fun x' hx' => ?_)
  · have : c ≠ b := fun e => hne _ hi (by rw [e]; rfl)
    simp [Array.getElem?_setIfInBounds, Ne.symm this]
  · rw [List.getElem?_set_self hil] at hx'
    obtain rfl : Blk.mpx b (mkeys κ l1) (some (es'.map (·.born), clock')) = x' := by injection hx'
    exact ⟨⟨es', clock', by simp [Array.getElem?_setIfInBounds, hlt], hke, hva, hsm, fun s hs => by cases hs; rfl⟩, fun b' hb' => .inl ⟨_, hi, hb'⟩⟩
/-- an entry is made, or found: its value and its stamp -/
theorem zMeV (eT : TypeId) (zt : T) (hκ : KeyR P kT κ) (k : α) (h : ∀ (l1 : List (α × T)) (j : Nat) (st : List Nat) (c : Nat) (v : T), l1[j]? = some (k, v) → j < st.length → (∀ t, l1.set j (k, t) = mput k t l) → mget k l1 = some ((mget k l).getD zt) → K (.tup [.c v, .c (.lit (.int .i64 ((st.getD j 0 : Nat) : Int)))]) (hp.set i (.mpx b (mkeys κ l1) (some (st, c)))))
    (hu : isMap P xT = some (kT, eT) := by kernel_rfl) (hL : TabOk P L := by exact tok) (hte : L.look eT = some te := by exact rfl) (ha : ZeroT te zt := by first | exact .inl ⟨rfl, rfl⟩ | exact .inr ⟨rfl, _, rfl, rfl⟩) (hx : ρ x = .own i (.map (some b)) := by exact rfl) (hi : hp[i]? = some (.mp b (mkeys κ l)) := by exact rfl) (hy : ∀ M u, RA M (ρ y) u → u = κ k := by intro M u h; first | exact kv_a h | exact kv_c h | exact kv_l h) :
    LO P F ⟨d, .mapEntry xT x y, ty, pos, aft, g⟩ ρ hp K := lo_mapEntry_rv hκ hL (isMap_eq hu) hte ha hx hi hy h
omit [DecidableEq α] in
/-- the entry's value is stored: the map told anew; what is stored may be the call's own -/
theorem zEstS {l1 l' : List (α × T)} {j c : Nat} {st : List Nat} {v : T} (t : T) (hj : l1[j]? = some (k, v)) (hjs : j < st.length) (hput : l1.set j (k, t) = l') (h : K (.c (.lit undef)) (hp.set i (.mp b (mkeys κ l')))) (hx : ρ x = .own i (.map (some b)) := by exact rfl) (hi : hp[i]? = some (.mpx b (mkeys κ l1) (some (st, c))) := by exact rfl) (hy : ρ y = .c (.lit (.int .i64 ((st.getD j 0 : Nat) : Int))) := by exact rfl) (hz : ∀ M u, RA M (ρ z) u → RT M t u := by first | exact fun _ _ h => ra_c h | exact fun _ _ h => ra_o h | exact fun _ _ h => ra_p h) :
    LO P F ⟨d, .entryStore xT x y z, ty, pos, aft, g⟩ ρ hp K := lo_entryStore_r (k := k) hx hi hy hj hjs hz (by rw [hput]; exact h)
end
end Go.Proofs.Ytdogdjcjmhogmaa
namespace Go.Proofs.Ytdogdjcjmhogmaa
open Go.RowKit
abbrev WayV := List ((Int × Int) × (Value × List Int))
structure Mx where
  b : Nat
  bw : Nat
  n : Nat
  vc : Value
  vs : Value
  sb : Nat → Nat
  vm : Nat → Value
  vw : Nat → Value
/-- all others -/
def oth (n t : Nat) : List Nat := (List.range n).filter fun a => a != t
def peersI (n t : Nat) : List Int := (oth n t).map fun a => ((a : Nat) : Int)
def bareI (W : WayV) : WayL := W.map fun p => (p.1, p.2.2)
@[reducible] def mwB (x : Mx) : Blk := .box x.b 190 [.own 1 x.vc, .own 2 x.vs, .own 3 (.map (some x.bw))]
@[reducible] def coB (x : Mx) (l : List Int) : Blk := .row x.vc 3 1 l.length (l.flatMap intTs)
@[reducible] def ssB (x : Mx) : Blk := .row x.vs 24 1 x.n ((List.range x.n).map fun i => T.lit (.pointer (some ⟨x.sb i, 0, none⟩)))
@[reducible] def wyB (x : Mx) (W : WayV) : Blk := .mp x.bw (mkeys pI (mapT litV W))
@[reducible] def hdM (x : Mx) (l : List Int) (W : WayV) : List Blk := [mwB x, coB x l, ssB x, wyB x W]
def wyR (p : (Int × Int) × (Value × List Int)) : Blk := inB p.2
/-- a side -/
@[reducible] def sdL (x : Mx) (bg : Bool) (st : Int) (m : Nat → Bool) (S : Nat → Value × List Int) (i : Nat) : List Blk :=
  sdB (x.sb i) (peersI x.n i) bg st (x.vm i) (x.vw i) :: mkB (x.vm i) ((oth x.n i).map m) :: owB (x.vw i) ((oth x.n i).map S) :: ((oth x.n i).map S).map inB
def sdF (x : Mx) (rv : Nat → Nat → Value) (Q : Qs) (i : Nat) : List Blk := sdL x (Q.bg i) (Q.st i) (fun a => (Q.ch a i).came) (fun a => (rv i a, recC (Q.bg i) (Q.ch a i))) i
/-- all blocks of a world -/
@[reducible] def allM (x : Mx) (W : WayV) (rv : Nat → Nat → Value) (Q : Qs) : List Blk := hdM x Q.now W ++ (W.map wyR ++ (List.range x.n).flatMap (sdF x rv Q))
def GaveM (x : Mx) (Wb : WayL) (Q : Qs) (hs : List Blk) : Prop := ∃ W rv, bareI W = Wb ∧ hs.Perm (allM x W rv Q)
def sidesN (n : Nat) : Nat := ((List.range n).map fun i => 3 + (oth n i).length).sum
def lenM (n : Nat) (Wb : WayL) : Nat := 4 + (Wb.length + sidesN n)
theorem sides_len (x : Mx) (rv : Nat → Nat → Value) (Q : Qs) : ((List.range x.n).flatMap (sdF x rv Q)).length = sidesN x.n := by
  rw [List.length_flatMap, sidesN]
  congr 1
  refine List.map_congr_left fun i _ => ?_
  simp [sdF, sdL]
  omega
theorem allM_len (x : Mx) (W : WayV) (rv : Nat → Nat → Value) (Q : Qs) : (allM x W rv Q).length = lenM x.n (bareI W) := by
  rw [allM, List.length_append, List.length_append, sides_len, lenM]
  simp [bareI]
theorem take_M {x : Mx} {Wb : WayL} {W : WayV} {rv : Nat → Nat → Value} {Q : Qs} {l : List Blk} (h : bareI W = Wb) (hl : l.Perm (allM x W rv Q)) : l.take (0 + lenM x.n Wb) = l := by
  refine List.take_of_length_le ?_
  rw [hl.length_eq, allM_len, h]
  omega
theorem bareI_put (k : Int × Int) (v : Value) (l : List Int) (W : WayV) : bareI (gput k (v, l) W) = gput k l (bareI W) := by
  induction W with
  | nil => rfl
  | cons p W ih =>
    unfold bareI at *
    unfold gput
    by_cases h : k = p.1
    · simp [h]
    · simp [h, ih]
theorem bareI_get (k : Int × Int) (W : WayV) : gget k (bareI W) = (gget k W).map (·.2) := by
  induction W with
  | nil => rfl
  | cons p W ih =>
    unfold bareI at *
    rw [List.map_cons]
    unfold gget
    by_cases h : k = p.1
    · simp [h]
    · simp [h, ih]
theorem oth_nodup (n t : Nat) : (oth n t).Nodup := List.nodup_range.filter _
theorem oth_mem {n t a : Nat} : a ∈ oth n t ↔ a < n ∧ a ≠ t := by
  unfold oth
  rw [List.mem_filter, List.mem_range]
  simp
theorem peers_nodup (n t : Nat) : (peersI n t).Nodup := by
  unfold peersI
  exact List.pairwise_map.2 ((oth_nodup n t).imp fun h e => h (by omega))
theorem peers_len (n t : Nat) : (peersI n t).length = (oth n t).length := by simp [peersI]
theorem oth_len (n t : Nat) : (oth n t).length ≤ n := by
  have := List.length_filter_le (fun a => a != t) (List.range n)
  rw [List.length_range] at this
  exact this
/-- where one of the others stands -/
theorem peer_at {n t a : Nat} (ha : a < n) (hat : a ≠ t) : ∃ j : Nat, posI (peersI n t) (a : Int) = (j : Int) ∧ (oth n t)[j]? = some a := by
  have hm : (a : Int) ∈ peersI n t := List.mem_map.2 ⟨a, oth_mem.2 ⟨ha, hat⟩, rfl⟩
  obtain ⟨j, h1, h2⟩ := posI_some hm
  refine ⟨j, h1, ?_⟩
  unfold peersI at h2
  rw [List.getElem?_map] at h2
  cases h3 : (oth n t)[j]? with
  | none => rw [h3] at h2; cases h2
  | some c =>
    rw [h3] at h2
    have : (c : Int) = (a : Int) := by simpa using h2
    rw [show c = a by omega]
theorem map_upd {α : Type} {f g : Nat → α} {l : List Nat} {j a : Nat} {v : α} (hn : l.Nodup) (hj : l[j]? = some a) (h1 : g a = v) (h2 : ∀ c, c ≠ a → g c = f c) : (l.map f).set j v = l.map g := by
  apply List.ext_getElem
  · simp
  · intro i ha hb
    simp only [List.length_set, List.length_map] at ha hb
    rw [List.getElem_set]
    obtain ⟨hjl, hja⟩ := List.getElem?_eq_some_iff.1 hj
    by_cases e : j = i
    · subst e
      rw [if_pos rfl, List.getElem_map, hja, h1]
    · rw [if_neg e, List.getElem_map, List.getElem_map, h2]
      intro e2
      have hp := List.pairwise_iff_getElem.1 hn
      rcases Nat.lt_trichotomy i j with h | h | h
      · exact hp i j ha hjl h (e2.trans hja.symm)
      · exact e h.symm
      · exact hp j i hjl ha h (hja.trans e2.symm)
/-- one of a family of lists, out -/
theorem flat_out {α : Type} {f g : Nat → List α} {n t : Nat} (ht : t < n) (h : ∀ i, i ≠ t → g i = f i) : ((List.range n).flatMap g).Perm (g t ++ ((List.range n).eraseIdx t).flatMap f) := by
  have hp := (erase_perm (l := List.range n) (i := t) (by simpa using ht)).flatMap_right g
  rw [show (List.range n)[t]'(by simpa using ht) = t by simp, List.flatMap_cons] at hp
  have e : ((List.range n).eraseIdx t).flatMap g = ((List.range n).eraseIdx t).flatMap f := by
    rw [List.flatMap_eq_foldl, List.flatMap_eq_foldl]
    have hne : ∀ a ∈ (List.range n).eraseIdx t, a ≠ t := fun a ha e => erase_not List.nodup_range (rng_get ht) (e ▸ ha)
    rw [← List.flatMap_eq_foldl, ← List.flatMap_eq_foldl]
    unfold List.flatMap
    rw [List.map_congr_left fun a ha => h a (hne a ha)]
  rw [e] at hp
  exact hp
theorem there_ag (x : Mx) (l : List Int) (i : Int) : AG Try.prog 78 [.ptr 0 x.b 0, .c (iL i)] [mwB x, coB x l] (fun r hs => r = .c (.lit (.bool (decide (isP l.length i)))) ∧ hs = [mwB x, coB x l]) := by
  have hd : decide (isP l.length i) = (decide (i ≥ 0) && decide (i < (l.length : Int))) := by
    rw [Bool.eq_iff_iff, decide_eq_true_iff]; unfold isP; simp
  rw [hd]
  cases d0 : decide (i ≥ 0) <;>
  · refine ag_enter (2) tok Try.func78 Try.ntmps78 Try.results78 rfl (by kernel_rfl) rfl fun F => ?_
    repeat (first | refine gG ?_ | refine zN1 (fun hlen => ?_) | refine zN2 (fun hlen => ?_))
    refine zG ?_
    exact ⟨rfl, rfl⟩
def wayV (k : Int × Int) (W : WayV) : List Int := ((gget k W).map (·.2)).getD []
theorem wayV_eq (k : Int × Int) (W : WayV) : wayV k W = wayI k (bareI W) := by unfold wayV wayI; rw [bareI_get]
theorem wyR_new (k : Int × Int) (v : Value) (l : List Int) (W : WayV) : W.map wyR ++ [inB (v, l)] = (W ++ [(k, (v, l))]).map wyR := by simp [wyR]
theorem wyR_set (k : Int × Int) (v : Value) (l : List Int) (W : WayV) (j : Nat) : (W.map wyR).set j (inB (v, l)) = (W.set j (k, (v, l))).map wyR := by rw [List.map_set]; rfl
theorem int_snoc (l : List Int) (z : Int) : l.flatMap intTs ++ [iL z] = (l ++ [z]).flatMap intTs := by rw [List.flatMap_append]; rfl
theorem spr_len (i m : Nat) (W : WayL) (k : Int × Int) : (wayI k (sprI i m W)).length ≤ (wayI k W).length + m := by
  induction m with
  | zero => exact Nat.le_refl _
  | succ m ih =>
    rw [sprI_succ]
    split
    · omega
    · unfold pushI
      rw [wayI_put]
      split
      · rename_i e
        rw [← e, List.length_append, List.length_singleton]
        omega
      · omega
set_option maxRecDepth 100000 in
set_option maxHeartbeats 8000000 in
theorem spread_ag (x : Mx) (l : List Int) (W0 : WayV) (i : Nat) (hl : l.length ≤ 8) (hb : ∀ k, (wayI k (bareI W0)).length ≤ 100000) : AG Try.prog 79 [.ptr 0 x.b 0, .c (iL i)] (hdM x l W0 ++ W0.map wyR) (fun _ hs => ∃ W, bareI W = sprI i l.length (bareI W0) ∧ hs = hdM x l W ++ W.map wyR) := by
  refine ag_enter (4 + (sprI i l.length (bareI W0)).length) tok Try.func79 Try.ntmps79 Try.results79 rfl (by kernel_rfl) rfl fun F => ?_
  repeat (first | refine gG ?_ | refine zN1 (fun hlen => ?_) | refine zN2 (fun hlen => ?_) | refine zAp (fun _ => ?_))
  refine x_loop [4, 10, 11, 12, 13, 14, 15, 16, 17, 18, 19, 20, 21, 22, 23, 24, 25, 26, 27, 28, 29, 30, 31, 32, 33] (fun q : Nat × WayV => [(10, .c (iL (q.1 : Nat)))]) (fun q => hdM x l q.2 ++ q.2.map wyR) (fun q => q.1 ≤ l.length ∧ bareI q.2 = sprI i q.1 (bareI W0)) (fun q => l.length - q.1) (0, W0) ⟨Nat.zero_le _, rfl⟩ ⟨rfl, trivial⟩ rfl ?_
  rintro ⟨t, W⟩ ⟨ht, hW⟩
  dsimp only at ht hW ⊢
  repeat (first | refine gG ?_ | refine zN1 (fun hlen => ?_) | refine zN2 (fun hlen => ?_) | refine zAp (fun _ => ?_))
  refine x_cond rfl (fun h => ?_) (fun h => ?_)
  · have ht' : t < l.length := by simpa using h
    clear h
    have hsp := sprI_succ i t (bareI W0)
    rw [← hW] at hsp
    have hln := spr_len i t (bareI W0) ((i : Int), (t : Int))
    have hb0 := hb ((i : Int), (t : Int))
    rw [← hW] at hln
    cases dt : decide (((t : Nat) : Int) = ((i : Nat) : Int))
    rotate_left
    · have dt' : (!decide (((t : Nat) : Int) = ((i : Nat) : Int))) = false := by rw [dt]; rfl
      have e : t = i := by have := of_decide_eq_true dt; omega
      rw [if_pos e] at hsp
      clear e
      repeat (first | refine gG ?_ | refine zN1 (fun hlen => ?_) | refine zN2 (fun hlen => ?_) | refine zAp (fun _ => ?_))
      exact ⟨(t + 1, W), ⟨ht', hsp.symm⟩, by dsimp only; omega, x_wk ⟨rfl, trivial⟩ rfl (by repeat (first | exact ag_refl | refine ag_upd rfl ?_ | refine ag_at rfl rfl ?_))⟩
    have dt' : (!decide (((t : Nat) : Int) = ((i : Nat) : Int))) = true := by rw [dt]; rfl
    have e : t ≠ i := by have := of_decide_eq_false dt; omega
    rw [if_neg e] at hsp
    unfold pushI at hsp
    clear e dt
    have hgT := mget_T litV ((i : Int), (t : Int)) W
    have hpT := fun b => mput_T litV ((i : Int), (t : Int)) b W
    have hbp := fun v l' => bareI_put ((i : Int), (t : Int)) v l' W
    rw [← wayV_eq] at hln hsp
    unfold wayV at hln hsp
    rcases gcase ((i : Int), (t : Int)) W with ⟨h1, h2⟩ | ⟨j, ⟨v, r⟩, h1, h2, h3⟩
    · rw [h1] at hgT hsp
      have hlk : (mget ((i : Int), (t : Int)) (mapT litV W)).getD (.lit (.slice none 0 0)) = .lit (.slice none 0 0) := by rw [hgT]; rfl
      have hpt : ∀ v', mput ((i : Int), (t : Int)) (.lit v') (mapT litV W) = mapT litV (W ++ [(((i : Int), (t : Int)), (v', [-1]))]) := fun v' => by
        have := hpT (v', [-1])
        rw [h2] at this
        exact this
      have hbw : ∀ v', bareI (W ++ [(((i : Int), (t : Int)), (v', [-1]))]) = sprI i (t + 1) (bareI W0) := fun v' => by
        rw [← h2, hbp, hsp]; rfl
      clear hgT hpT h1 h2 hb
      repeat (first | refine gG ?_ | refine zN1 (fun hlen => ?_) | refine zN2 (fun hlen => ?_) | refine zAp (fun _ => ?_))
      refine ac_drawT [0, 0, 0, 3, 0, 0, 0, 1, 1, 1, 1, 1, 1, 1, 1, 1, 2, 2] (.fork [0, 1, 2, 4, 5, 6, 7, 8, 9, 10, 11, 12, 13, 14, 15] 3 (.fin [16, 17]) 16 (.fin [3, 17])) (by kernel_rfl) (by kernel_rfl) ?_
      refine wt_fork ?_
      refine gW ?_
      apply w_p; (focus exact rfl); (focus exact rfl); focus (intro _; (refine zBda ?_); exact det_refl)
      refine gW ?_
      apply w_q; (focus exact rfl); (focus exact rfl); focus (intro _; (refine zBda ?_); exact det_refl)
      apply w_q; (focus exact rfl); (focus exact rfl); focus (intro _; (refine zLkr 22 keyWay ((i : Int), (t : Int)) hlk ?_); exact det_refl)
      refine gW ?_
      refine w_nil ?_
      refine ⟨?_, ?_⟩
      · apply w_a; (focus exact rfl); (focus exact rfl); refine zL1 ⟨⟨[], (List.append_nil _).symm⟩, ?_⟩
        refine w_nil ?_
        refine wt_fin ?_
        apply w_l; (focus exact rfl); (focus exact rfl); (refine zApN (fun v' => ?_))
        apply w_l; (focus exact rfl); (focus exact rfl); (refine zUprS 22 keyWay ((i : Int), (t : Int)) (hpt _) ?_)
        refine w_nil ?_
        repeat (first | refine gG ?_ | refine zN1 (fun hlen => ?_) | refine zN2 (fun hlen => ?_) | refine zAp (fun _ => ?_))
        exact ⟨(t + 1, W ++ [(((i : Int), (t : Int)), (v', [-1]))]), ⟨ht', hbw v'⟩, by dsimp only; omega, x_wk ⟨rfl, trivial⟩ (congrArg (fun r => hdM x l (W ++ [(((i : Int), (t : Int)), (v', [-1]))]) ++ r) (wyR_new ((i : Int), (t : Int)) v' [-1] W)) (by repeat (first | exact ag_refl | refine ag_upd rfl ?_ | refine ag_at rfl rfl ?_))⟩
              
      · apply w_l; (focus exact rfl); (focus exact rfl); (refine zApN (fun v' => ?_))
        refine w_nil ?_
        refine wt_fin ?_
        apply w_a; (focus exact rfl); (focus exact rfl); refine zL1 ⟨⟨[], (List.append_nil _).symm⟩, ?_⟩
        apply w_l; (focus exact rfl); (focus exact rfl); (refine zUprS 22 keyWay ((i : Int), (t : Int)) (hpt _) ?_)
        refine w_nil ?_
        repeat (first | refine gG ?_ | refine zN1 (fun hlen => ?_) | refine zN2 (fun hlen => ?_) | refine zAp (fun _ => ?_))
        exact ⟨(t + 1, W ++ [(((i : Int), (t : Int)), (v', [-1]))]), ⟨ht', hbw v'⟩, by dsimp only; omega, x_wk ⟨rfl, trivial⟩ (congrArg (fun r => hdM x l (W ++ [(((i : Int), (t : Int)), (v', [-1]))]) ++ r) (wyR_new ((i : Int), (t : Int)) v' [-1] W)) (by repeat (first | exact ag_refl | refine ag_upd rfl ?_ | refine ag_at rfl rfl ?_))⟩
              
    · rw [h1] at hgT hsp hln
      dsimp only [Option.map_some, Option.getD_some] at hln hsp
      have hlk : (mget ((i : Int), (t : Int)) (mapT litV W)).getD (.lit (.slice none 0 0)) = .lit v := by rw [hgT]; rfl
      have hpt : ∀ v', mput ((i : Int), (t : Int)) (.lit v') (mapT litV W) = mapT litV (W.set j (((i : Int), (t : Int)), (v', r ++ [-1]))) := fun v' => by
        have := hpT (v', r ++ [-1])
        rw [h3] at this
        exact this
      have hbw : ∀ v', bareI (W.set j (((i : Int), (t : Int)), (v', r ++ [-1]))) = sprI i (t + 1) (bareI W0) := fun v' => by
        rw [← h3, hbp, hsp]
      have hjl : j < W.length := (List.getElem?_eq_some_iff.1 h2).1
      have hrow : ∀ z, (hdM x l W ++ W.map wyR ++ z)[j + 4]? = some (inB (v, r)) := fun z => by
        show (W.map wyR ++ z)[j]? = _
        rw [List.getElem?_append_left (by simpa using hjl), List.getElem?_map, h2]
        rfl
      have hrow0 : (hdM x l W ++ W.map wyR)[j + 4]? = some (inB (v, r)) := by simpa using hrow []
      have hws := fun v' => wyR_set ((i : Int), (t : Int)) v' (r ++ [-1]) W j
      clear hgT hpT h1 h2 hb
      repeat (first | refine gG ?_ | refine zN1 (fun hlen => ?_) | refine zN2 (fun hlen => ?_) | refine zAp (fun _ => ?_))
      refine ac_drawT [0, 0, 0, 3, 0, 0, 0, 1, 1, 1, 1, 1, 1, 1, 1, 1, 2, 2] (.fork [0, 1, 2, 4, 5, 6, 7, 8, 9, 10, 11, 12, 13, 14, 15] 3 (.fin [16, 17]) 16 (.fin [3, 17])) (by kernel_rfl) (by kernel_rfl) ?_
      refine wt_fork ?_
      refine gW ?_
      apply w_p; (focus exact rfl); (focus exact rfl); focus (intro _; (refine zBda ?_); exact det_refl)
      refine gW ?_
      apply w_q; (focus exact rfl); (focus exact rfl); focus (intro _; (refine zBda ?_); exact det_refl)
      apply w_q; (focus exact rfl); (focus exact rfl); focus (intro _; (refine lo_as (j + 4) (zLkr 22 keyWay ((i : Int), (t : Int)) hlk ⟨_, _, _, _, _, rfl, hrow _, ?_⟩)); exact det_refl)
      refine gW ?_
      refine w_nil ?_
      refine ⟨?_, ?_⟩
      · apply w_a; (focus exact rfl); (focus exact rfl); refine zL1 ⟨⟨[], (List.append_nil _).symm⟩, ?_⟩
        refine w_nil ?_
        refine wt_fin ?_
        apply w_l; (focus exact rfl); (focus exact rfl); (refine zApS (fun v' => ?_) tok rfl hrow0)
        apply w_l; (focus exact rfl); (focus exact rfl); (refine zUprS 22 keyWay ((i : Int), (t : Int)) (hpt _) ?_)
        refine w_nil ?_
        repeat (first | refine gG ?_ | refine zN1 (fun hlen => ?_) | refine zN2 (fun hlen => ?_) | refine zAp (fun _ => ?_))
        refine ⟨(t + 1, W.set j (((i : Int), (t : Int)), (v', r ++ [-1]))), ⟨ht', hbw v'⟩, by dsimp only; omega, x_wk ⟨rfl, trivial⟩ ?_ (by repeat (first | exact ag_refl | refine ag_upd rfl ?_ | refine ag_at rfl rfl ?_))⟩
        refine Eq.trans ?_ (congrArg (fun r => hdM x l (W.set j (((i : Int), (t : Int)), (v', _))) ++ r) (hws v'))
        rw [inB, ← int_snoc, List.length_append]
        rfl
              
      · apply w_l; (focus exact rfl); (focus exact rfl); (refine zApS (fun v' => ?_) tok rfl hrow0)
        refine w_nil ?_
        refine wt_fin ?_
        apply w_a; (focus exact rfl); (focus exact rfl); refine zL1 ⟨⟨[], (List.append_nil _).symm⟩, ?_⟩
        apply w_l; (focus exact rfl); (focus exact rfl); (refine zUprS 22 keyWay ((i : Int), (t : Int)) (hpt _) ?_)
        refine w_nil ?_
        repeat (first | refine gG ?_ | refine zN1 (fun hlen => ?_) | refine zN2 (fun hlen => ?_) | refine zAp (fun _ => ?_))
        refine ⟨(t + 1, W.set j (((i : Int), (t : Int)), (v', r ++ [-1]))), ⟨ht', hbw v'⟩, by dsimp only; omega, x_wk ⟨rfl, trivial⟩ ?_ (by repeat (first | exact ag_refl | refine ag_upd rfl ?_ | refine ag_at rfl rfl ?_))⟩
        refine Eq.trans ?_ (congrArg (fun r => hdM x l (W.set j (((i : Int), (t : Int)), (v', _))) ++ r) (hws v'))
        rw [inB, ← int_snoc, List.length_append]
        rfl
              
  · have hte : t = l.length := by have : ¬ t < l.length := by simpa using h
                                  omega
    subst hte
    clear h
    repeat (first | refine gG ?_ | refine zN1 (fun hlen => ?_) | refine zN2 (fun hlen => ?_) | refine zAp (fun _ => ?_))
    refine zGS ?_ ⟨W, hW, rfl⟩
    refine List.take_of_length_le ?_
    rw [← hW]
    simp [bareI]
    omega
end Go.Proofs.Ytdogdjcjmhogmaa
