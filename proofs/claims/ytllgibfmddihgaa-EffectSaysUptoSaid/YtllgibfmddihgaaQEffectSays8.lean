/-
  Texts of this proof, part 8: Tnf Tng Tni Tnj Tnk Tnl Tnm Tno Tfa Ab33 Ab37 Ab38 Ab39 Ab40 Tfb Tfb2.
-/
import Derived.Test.YtllgibfmddihgaaQEffectSays7
import Derived.Laws.Strings2
import Derived.Lib.AppendZerosOnto
import Derived.Lib.MinMax
namespace Go.Proofs.Ytllgibfmddihgaa
open Go.RowKit
theorem all_len (l : List Ex) : (Ex.all l).length = l.length * 8 := by
  induction l with
  | nil => rfl
  | cons a l ih => rw [Ex.all, List.length_append, ih, Ex.ts_len, List.length_cons]; omega
theorem spl_tail (acc : List Ex) (z us : List T) (hz : z.length = 8) (hu : us.length = 8) : spl (Ex.all acc ++ z) (acc.length * 8) us = Ex.all acc ++ us := by
  have hl := all_len acc
  rw [spl_eq _ _ _ (by rw [List.length_append]; omega), List.take_append_of_le_length (by omega), List.take_of_length_le (by omega), List.drop_of_length_le (by rw [List.length_append]; omega), List.append_nil]
def arWalk (r : Ar) : List Ex := r.body.walk
theorem arWalk_eq (rs : List Ar) : (rs.map Ar.body).flatMap Ex.walk = rs.flatMap arWalk := by
  induction rs with
  | nil => rfl
  | cons a l ih => simp only [List.map_cons, List.flatMap_cons, ih]; rfl
set_option maxRecDepth 100000 in
set_option maxHeartbeats 4000000 in
theorem walk1_ag (e : Ex) : ∀ (b1 b2 : Nat) (v : Value) (acc : List Ex), acc.length + e.walk.length ≤ 1048576 →
    AG Try.prog 126 [.c e.t, .ptr 0 b1 0, .ptr 1 b2 0] [.box b1 81 [.own 2 v], .box b2 237 [.fn (.func 126) [.ptr 0 b1 0, .ptr 1 b2 0]], .row v 84 8 acc.length (Ex.all acc)]
      (fun r hs => ∃ v', r = .tup [] ∧ hs = [.box b1 81 [.own 2 v'], .box b2 237 [.fn (.func 126) [.ptr 0 b1 0, .ptr 1 b2 0]], .row v' 84 8 (acc ++ e.walk).length (Ex.all (acc ++ e.walk))]) := by
  induction e using Ex.ind with
  | h k n t ns ys l rs p ih ihr =>
    intro b1 b2 v acc hb
    have hall : ((acc ++ [Ex.mk k n t ns ys l rs p]) ++ l.flatMap Ex.walk) ++ rs.flatMap arWalk = acc ++ (Ex.mk k n t ns ys l rs p).walk := by
      rw [Ex.walk_eq, Ex.nexts, List.flatMap_append, Ex.args, Ex.arms, arWalk_eq]
      simp only [List.append_assoc, List.cons_append, List.nil_append]
    have hbl : ((acc ++ [Ex.mk k n t ns ys l rs p]) ++ l.flatMap Ex.walk).length + (rs.flatMap arWalk).length ≤ 1048576 := by rw [← List.length_append, hall, List.length_append]; exact hb
    have hbl1 : (acc ++ [Ex.mk k n t ns ys l rs p]).length + (l.flatMap Ex.walk).length ≤ 1048576 := by rw [List.length_append] at hbl; omega
    have hac : acc.length + 1 ≤ 1048576 := by simp only [List.length_append, List.length_cons, List.length_nil] at hbl1; omega
    have hr : ∀ r ∈ rs, ∀ (b1 b2 : Nat) (v : Value) (acc : List Ex), acc.length + (arWalk r).length ≤ 1048576 → AG Try.prog 126 [.c r.body.t, .ptr 0 b1 0, .ptr 1 b2 0] [.box b1 81 [.own 2 v], .box b2 237 [.fn (.func 126) [.ptr 0 b1 0, .ptr 1 b2 0]], .row v 84 8 acc.length (Ex.all acc)]
      (fun q hs => ∃ v', q = .tup [] ∧ hs = [.box b1 81 [.own 2 v'], .box b2 237 [.fn (.func 126) [.ptr 0 b1 0, .ptr 1 b2 0]], .row v' 84 8 (acc ++ arWalk r).length (Ex.all (acc ++ arWalk r))]) := fun r hr => by
      obtain ⟨q, x⟩ := r
      exact ihr _ hr q x rfl
    have e1 : (acc ++ [Ex.mk k n t ns ys l rs p]).length = acc.length + 1 := by simp
    have e2 : Ex.all (acc ++ [Ex.mk k n t ns ys l rs p]) = Ex.all acc ++ (Ex.mk k n t ns ys l rs p).ts := by rw [Ex.all_app, Ex.all_one]
    have hble : acc.length * 8 + 8 ≤ (Ex.all acc ++ ([.lit (.int .i64 0), .lit (.int .i64 0), .lit (.string ⟨#[]⟩), .lit (.slice none 0 0), .lit (.slice none 0 0), .lit (.slice none 0 0), .lit (.slice none 0 0), .lit (.int .i64 0)] : List T)).length := by rw [List.length_append, all_len]; simp
    clear ihr hb
    refine ag_enter 3 tok Try.func126 Try.ntmps126 Try.results126 rfl (by kernel_rfl) rfl fun F => ?_
    repeat (first | refine gG ?_ | refine zN1 (fun hlen => ?_) | refine zN2 (fun hlen => ?_) | refine zAl (fun _ => ?_) | refine zBf ?_ | refine zAp (fun _ => ?_))
    refine x_join [8, 9, 10, 11, 12, 13] (fun _ : Value => []) (fun y : Value => [.box b1 81 [.own 2 y], .box b2 237 [.fn (.func 126) [.ptr 0 b1 0, .ptr 1 b2 0]], .row y 84 8 (acc ++ [Ex.mk k n t ns ys l rs p]).length (Ex.all (acc ++ [Ex.mk k n t ns ys l rs p]))]) (fun y => ?_) ?_
    rotate_left
    · skip
      refine ac_drawT [1, 1, 1, 1, 2, 2, 2, 2] (.fork [0, 1, 2, 3, 4] 5 (.fork [] 6 (.fin [7]) 7 (.fin [6])) 7 (.fin [5, 6])) (by kernel_rfl) (by kernel_rfl) ?_
      refine wt_fork ?_
      refine gW ?_
      apply w_q; (focus exact rfl); (focus exact rfl); focus (intro _; (refine zEx ?_; refine zBs ?_); exact det_refl)
      apply w_l; (focus exact rfl); (focus exact rfl); (refine zAp (fun _ => ?_))
      refine w_nil ?_
      refine ⟨?_, ?_⟩
      · apply w_l; (focus exact rfl); (focus exact rfl); (refine zIxo acc.length (show acc.length < acc.length + 1 by omega) ?_)
        refine w_nil ?_
        refine wt_fork ?_
        refine w_nil ?_
        refine ⟨?_, ?_⟩
        · apply w_l; (focus exact rfl); (focus exact rfl); (refine zSe (spl_tail acc [.lit (.int .i64 0), .lit (.int .i64 0), .lit (.string ⟨#[]⟩), .lit (.slice none 0 0), .lit (.slice none 0 0), .lit (.slice none 0 0), .lit (.slice none 0 0), .lit (.int .i64 0)] (Ex.ts (Ex.mk k n t ns ys l rs p)) rfl rfl) hble ?_)
          refine w_nil ?_
          refine wt_fin ?_
          apply w_l; (focus exact rfl); (focus exact rfl); (refine zS ?_)
          refine w_nil ?_
          exact ⟨_, x_wkd 3 trivial (by simp only [e1, e2]; rfl) (by repeat (first | exact ag_refl | refine ag_upd rfl ?_ | refine ag_at rfl rfl ?_))⟩
        · apply w_l; (focus exact rfl); (focus exact rfl); (refine zS ?_)
          refine w_nil ?_
          refine wt_fin ?_
          apply w_l; (focus exact rfl); (focus exact rfl); (refine zSe (spl_tail acc [.lit (.int .i64 0), .lit (.int .i64 0), .lit (.string ⟨#[]⟩), .lit (.slice none 0 0), .lit (.slice none 0 0), .lit (.slice none 0 0), .lit (.slice none 0 0), .lit (.int .i64 0)] (Ex.ts (Ex.mk k n t ns ys l rs p)) rfl rfl) hble ?_)
          refine w_nil ?_
          exact ⟨_, x_wkd 3 trivial (by simp only [e1, e2]; rfl) (by repeat (first | exact ag_refl | refine ag_upd rfl ?_ | refine ag_at rfl rfl ?_))⟩
      · apply w_l; (focus exact rfl); (focus exact rfl); (refine zS ?_)
        refine w_nil ?_
        refine wt_fin ?_
        apply w_l; (focus exact rfl); (focus exact rfl); (refine zIxo acc.length (show acc.length < acc.length + 1 by omega) ?_)
        apply w_l; (focus exact rfl); (focus exact rfl); (refine zSe (spl_tail acc [.lit (.int .i64 0), .lit (.int .i64 0), .lit (.string ⟨#[]⟩), .lit (.slice none 0 0), .lit (.slice none 0 0), .lit (.slice none 0 0), .lit (.slice none 0 0), .lit (.int .i64 0)] (Ex.ts (Ex.mk k n t ns ys l rs p)) rfl rfl) hble ?_)
        refine w_nil ?_
        exact ⟨_, x_wkd 3 trivial (by simp only [e1, e2]; rfl) (by repeat (first | exact ag_refl | refine ag_upd rfl ?_ | refine ag_at rfl rfl ?_))⟩
    · clear e1 e2 hble hac
      repeat (first | refine gG ?_ | refine zN1 (fun hlen => ?_) | refine zN2 (fun hlen => ?_) | refine zAl (fun _ => ?_) | refine zBx (fun _ => ?_) | refine zAp (fun _ => ?_))
      refine x_loop [5, 17, 18, 19, 20, 21, 22, 23, 24] (fun z : Nat × Value => [(17, .c (.lit (.int .i64 (z.1 : Nat))))]) (fun z => [.box b1 81 [.own 2 z.2], .box b2 237 [.fn (.func 126) [.ptr 0 b1 0, .ptr 1 b2 0]], .row z.2 84 8 ((acc ++ [Ex.mk k n t ns ys l rs p]) ++ (l.take z.1).flatMap Ex.walk).length (Ex.all ((acc ++ [Ex.mk k n t ns ys l rs p]) ++ (l.take z.1).flatMap Ex.walk))])
        (fun z => z.1 ≤ l.length) (fun z => l.length - z.1) (0, y) (Nat.zero_le _) ⟨rfl, trivial⟩ (by simp only [List.take_zero, List.flatMap_nil, List.append_nil]; try rfl) ?_
      rintro ⟨j, u⟩ hj
      dsimp only at hj ⊢
      repeat (first | refine gG ?_ | refine zN1 (fun hlen => ?_) | refine zN2 (fun hlen => ?_) | refine zAl (fun _ => ?_) | refine zBx (fun _ => ?_) | refine zAp (fun _ => ?_))
      refine x_cond rfl (fun h => ?_) (fun h => ?_)
      · have hj' : j < l.length := by simpa using h
        obtain ⟨a, ha⟩ := nth hj'
        have hle := flatl_le Ex.walk l (j + 1)
        have hsn := flat_snoc' Ex.walk ha
        have hnx : (acc ++ [Ex.mk k n t ns ys l rs p]) ++ (l.take (j + 1)).flatMap Ex.walk = ((acc ++ [Ex.mk k n t ns ys l rs p]) ++ (l.take j).flatMap Ex.walk) ++ Ex.walk a := by rw [hsn]; simp only [List.append_assoc]
        have hc := ih a (List.mem_of_getElem? ha) b1 b2 u ((acc ++ [Ex.mk k n t ns ys l rs p]) ++ (l.take j).flatMap Ex.walk) (by rw [← List.length_append, ← hnx, List.length_append]; omega)
        have hat := Ex.at ha
        clear h hsn hle
        obtain ⟨kb, nb, tb, nsb, ysb, lb, rsb, pb⟩ := a
        repeat (first | refine gG ?_ | refine zN1 (fun hlen => ?_) | refine zN2 (fun hlen => ?_) | refine zAl (fun _ => ?_) | refine zBx (fun _ => ?_) | refine zAp (fun _ => ?_))
        refine zIx (j) (hj') ?_
        repeat (first | refine gG ?_ | refine zN1 (fun hlen => ?_) | refine zN2 (fun hlen => ?_) | refine zAl (fun _ => ?_) | refine zBx (fun _ => ?_) | refine zAp (fun _ => ?_))
        refine zEl (hat) (Ex.ts_len _) ?_
        repeat (first | refine gG ?_ | refine zN1 (fun hlen => ?_) | refine zN2 (fun hlen => ?_) | refine zAl (fun _ => ?_) | refine zBx (fun _ => ?_) | refine zAp (fun _ => ?_))
        refine zCallG [0, 1, 2] hc ?_
        rintro _ _ ⟨v', rfl, rfl⟩
        refine ⟨.tup [], _, re_refl, rfl, rfl, ?_⟩
        repeat (first | refine gG ?_ | refine zN1 (fun hlen => ?_) | refine zN2 (fun hlen => ?_) | refine zAl (fun _ => ?_) | refine zBx (fun _ => ?_) | refine zAp (fun _ => ?_))
        exact ⟨(j + 1, v'), hj', by simp only; omega, x_wkd 3 ⟨rfl, trivial⟩ (by simp only [hnx]; rfl) (by repeat (first | exact ag_refl | refine ag_upd rfl ?_ | refine ag_at rfl rfl ?_))⟩
      · have hj' : j = l.length := by
          have : ¬ j < l.length := by simpa using h
          omega
        subst hj'
        clear h
        rw [List.take_length]
        repeat (first | refine gG ?_ | refine zN1 (fun hlen => ?_) | refine zN2 (fun hlen => ?_) | refine zAl (fun _ => ?_) | refine zBx (fun _ => ?_) | refine zAp (fun _ => ?_))
        refine x_loop [7, 28, 29, 30, 31, 32, 33, 34, 35, 36] (fun z : Nat × Value => [(28, .c (.lit (.int .i64 (z.1 : Nat))))]) (fun z => [.box b1 81 [.own 2 z.2], .box b2 237 [.fn (.func 126) [.ptr 0 b1 0, .ptr 1 b2 0]], .row z.2 84 8 (((acc ++ [Ex.mk k n t ns ys l rs p]) ++ l.flatMap Ex.walk) ++ (rs.take z.1).flatMap arWalk).length (Ex.all (((acc ++ [Ex.mk k n t ns ys l rs p]) ++ l.flatMap Ex.walk) ++ (rs.take z.1).flatMap arWalk))])
          (fun z => z.1 ≤ rs.length) (fun z => rs.length - z.1) (0, _) (Nat.zero_le _) ⟨rfl, trivial⟩ (by simp only [List.take_zero, List.flatMap_nil, List.append_nil]; try rfl) ?_
        rintro ⟨j, u⟩ hj
        dsimp only at hj ⊢
        repeat (first | refine gG ?_ | refine zN1 (fun hlen => ?_) | refine zN2 (fun hlen => ?_) | refine zAl (fun _ => ?_) | refine zBx (fun _ => ?_) | refine zAp (fun _ => ?_))
        refine x_cond rfl (fun h => ?_) (fun h => ?_)
        · have hj' : j < rs.length := by simpa using h
          obtain ⟨a, ha⟩ := nth hj'
          have hle := flatl_le arWalk rs (j + 1)
          have hsn := flat_snoc' arWalk ha
          have hnx : ((acc ++ [Ex.mk k n t ns ys l rs p]) ++ l.flatMap Ex.walk) ++ (rs.take (j + 1)).flatMap arWalk = (((acc ++ [Ex.mk k n t ns ys l rs p]) ++ l.flatMap Ex.walk) ++ (rs.take j).flatMap arWalk) ++ arWalk a := by rw [hsn]; simp only [List.append_assoc]
          have hc := hr a (List.mem_of_getElem? ha) b1 b2 u (((acc ++ [Ex.mk k n t ns ys l rs p]) ++ l.flatMap Ex.walk) ++ (rs.take j).flatMap arWalk) (by rw [← List.length_append, ← hnx, List.length_append]; omega)
          have hat := Ar.at ha
          clear h hsn hle
          obtain ⟨⟨kp, np, tp, lp⟩, ⟨kb, nb, tb, nsb, ysb, lb, rsb, pb⟩⟩ := a
          repeat (first | refine gG ?_ | refine zN1 (fun hlen => ?_) | refine zN2 (fun hlen => ?_) | refine zAl (fun _ => ?_) | refine zBx (fun _ => ?_) | refine zAp (fun _ => ?_))
          refine zIx (j) (hj') ?_
          repeat (first | refine gG ?_ | refine zN1 (fun hlen => ?_) | refine zN2 (fun hlen => ?_) | refine zAl (fun _ => ?_) | refine zBx (fun _ => ?_) | refine zAp (fun _ => ?_))
          refine zEl (hat) (Ar.ts_len _) ?_
          repeat (first | refine gG ?_ | refine zN1 (fun hlen => ?_) | refine zN2 (fun hlen => ?_) | refine zAl (fun _ => ?_) | refine zBx (fun _ => ?_) | refine zAp (fun _ => ?_))
          refine zCallG [0, 1, 2] hc ?_
          rintro _ _ ⟨v', rfl, rfl⟩
          refine ⟨.tup [], _, re_refl, rfl, rfl, ?_⟩
          repeat (first | refine gG ?_ | refine zN1 (fun hlen => ?_) | refine zN2 (fun hlen => ?_) | refine zAl (fun _ => ?_) | refine zBx (fun _ => ?_) | refine zAp (fun _ => ?_))
          exact ⟨(j + 1, v'), hj', by simp only; omega, x_wkd 3 ⟨rfl, trivial⟩ (by simp only [hnx]; rfl) (by repeat (first | exact ag_refl | refine ag_upd rfl ?_ | refine ag_at rfl rfl ?_))⟩
        · have hj' : j = rs.length := by
            have : ¬ j < rs.length := by simpa using h
            omega
          subst hj'
          clear h
          rw [List.take_length]
          repeat (first | refine gG ?_ | refine zN1 (fun hlen => ?_) | refine zN2 (fun hlen => ?_) | refine zAl (fun _ => ?_) | refine zBx (fun _ => ?_) | refine zAp (fun _ => ?_))
          refine zG ?_
          exact ⟨_, rfl, by rw [hall]⟩
end Go.Proofs.Ytllgibfmddihgaa
namespace Go.Proofs.Ytllgibfmddihgaa
open Go.RowKit
set_option maxRecDepth 100000 in
set_option maxHeartbeats 4000000 in
theorem walk_af (e : Ex) (he : e.walk.length ≤ 1048576) : AF Try.prog 107 [e.t] (· = Ex.row e.walk) := by
  have hc := fun b1 b2 v => walk1_ag e b1 b2 v [] (by simpa using he)
  simp only [List.nil_append] at hc
  generalize e.walk = W at *
  obtain ⟨k0, n0, t0, ns0, ys0, l0, rs0, p0⟩ := e
  refine af_enter tok Try.func107 Try.ntmps107 Try.results107 rfl (by kernel_rfl) rfl rfl fun F hX => ?_
  repeat (first | refine ac_seq ?_ | refine ac_block ?_ | refine ac_region ?_)
  repeat (first | refine gO ?_ | refine zAl (fun _ => ?_) | refine zBf ?_)
  repeat (first | refine ac_seq ?_ | refine ac_block ?_ | refine ac_region ?_)
  repeat (first | refine gO ?_ | refine zAl (fun _ => ?_) | refine zBf ?_)
  repeat (first | refine ac_seq ?_ | refine ac_block ?_ | refine ac_region ?_)
  repeat (first | refine gO ?_ | refine zAl (fun _ => ?_) | refine zBf ?_)
  repeat (first | refine ac_seq ?_ | refine ac_block ?_ | refine ac_region ?_)
  repeat (first | refine gO ?_ | refine zAl (fun _ => ?_) | refine zBf ?_)
  refine x_own_cell 0 0 84 8 rfl rfl rfl rfl rfl rfl ?_
  repeat (first | refine gG ?_ | refine zAl (fun _ => ?_) | refine zBx (fun _ => ?_))
  refine zCallG [0, 1, 2] (hc _ _ _) ?_
  rintro _ _ ⟨v', rfl, rfl⟩
  refine ⟨.tup [], _, re_refl, rfl, rfl, ?_⟩
  repeat (first | refine gG ?_ | refine zAl (fun _ => ?_) | refine zBx (fun _ => ?_))
  first | refine zR ?_ | refine zQ ?_
  rfl
end Go.Proofs.Ytllgibfmddihgaa
namespace Go.Proofs.Ytllgibfmddihgaa
open Go.RowKit
mutual
def Ex.clear : Ex → Ex
  | .mk k n t ns ys l rs _ => .mk k n t ns ys (Ex.clears l) (Ar.clears rs) 0
def Ex.clears : List Ex → List Ex
  | [] => []
  | v :: r => v.clear :: Ex.clears r
def Ar.clears : List Ar → List Ar
  | [] => []
  | .mk p b :: r => .mk p b.clear :: Ar.clears r
end
def Ar.clear : Ar → Ar
  | .mk p b => .mk p b.clear
end Go.Proofs.Ytllgibfmddihgaa
namespace Go.Proofs.Ytllgibfmddihgaa
open Go.RowKit
def Ex.pos : Ex → Int
  | .mk _ _ _ _ _ _ _ p => p
end Go.Proofs.Ytllgibfmddihgaa
namespace Go.Proofs.Ytllgibfmddihgaa
open Go.RowKit
def hasS (l : List ByteArray) (s : ByteArray) : Bool := l.any fun x => decide (x = s)
theorem hasS_app (l r : List ByteArray) (s : ByteArray) : hasS (l ++ r) s = (hasS l s || hasS r s) := by simp [hasS]
/-- what is neither in names nor yet in out is put behind, one after the other -/
def addS (names : List ByteArray) : List ByteArray → List ByteArray → List ByteArray
  | out, [] => out
  | out, s :: r => addS names (bif hasS names s || hasS out s then out else out ++ [s]) r
theorem addS_app (N : List ByteArray) : ∀ (L M out : List ByteArray), addS N out (L ++ M) = addS N (addS N out L) M
  | [], _, _ => rfl
  | s :: L, M, out => by rw [List.cons_append, addS, addS, addS_app N L M]
theorem hasS_one (x s : ByteArray) : hasS [x] s = decide (x = s) := by simp [hasS]
end Go.Proofs.Ytllgibfmddihgaa
namespace Go.Proofs.Ytllgibfmddihgaa
open Go.RowKit
/-- the maps say what is gathered, and how often a name is bound -/
def SeenOk (m : List (ByteArray × T)) (out : List ByteArray) : Prop := ∀ s, (mget s m).getD (.lit (.bool false)) = .lit (.bool (hasS out s))
def times (s : ByteArray) (B : List ByteArray) : Nat := (B.filter fun x => decide (x = s)).length
def BndOk (m : List (ByteArray × T)) (B : List ByteArray) : Prop := ∀ s, (mget s m).getD (.lit (.int .i64 0)) = .lit (.int .i64 (times s B : Nat))
theorem SeenOk.put {m : List (ByteArray × T)} {out : List ByteArray} (h : SeenOk m out) (s : ByteArray) : SeenOk (mput s (.lit (.bool true)) m) (out ++ [s]) := by
  intro x
  rw [mget_put, hasS_app, hasS_one]
  by_cases hx : x = s
  · subst hx; simp
  · rw [if_neg hx, h x]; simp [Ne.symm hx]
theorem BndOk.put {m : List (ByteArray × T)} {B B' : List ByteArray} (h : BndOk m B) (s : ByteArray) (z : Int) (hz : z = (times s B' : Nat)) (hB : ∀ x, x ≠ s → times x B' = times x B) : BndOk (mput s (.lit (.int .i64 z)) m) B' := by
  intro x
  rw [mget_put]
  by_cases hx : x = s
  · subst hx; simp [hz]
  · rw [if_neg hx, h x, hB x hx]
end Go.Proofs.Ytllgibfmddihgaa
namespace Go.Proofs.Ytllgibfmddihgaa
open Go.RowKit
theorem str_at1 {l : List ByteArray} {k : Nat} {s : ByteArray} (h : l[k]? = some s) : (l.flatMap strTs)[k * 1]? = some (.lit (.string s)) := by rw [Nat.mul_one]; exact str_at h
end Go.Proofs.Ytllgibfmddihgaa
namespace Go.Proofs.Ytllgibfmddihgaa
open Go.RowKit
/-- the place of a name among names -/
def posOf (s : ByteArray) (l : List ByteArray) : Int := idxI (fun x => decide (s = x)) l
set_option maxRecDepth 100000 in
set_option maxHeartbeats 1000000 in
theorem idxStr_af (l : List ByteArray) (s : ByteArray) : AF Try.prog 117 [strRow l, .lit (.string s)] (· = .lit (.int .i64 (posOf s l))) := by
  refine af_enter tok Try.func117 Try.ntmps117 Try.results117 rfl (by kernel_rfl) rfl rfl fun F hX => ?_
  repeat (first | refine gG ?_ | refine zN1 (fun hlen => ?_) | refine zN2 (fun hlen => ?_))
  refine x_loop [4, 5, 8, 9, 10, 11, 12, 13, 14, 15, 16, 17, 18] (fun k : Nat => [(8, .c (.lit (.int .i64 k)))]) (fun _ => []) (fun k => k ≤ l.length ∧ idxAt (fun x => decide (s = x)) l k) (fun k => l.length - k) 0 ⟨Nat.zero_le _, idxAt_zero _ l⟩ ⟨rfl, trivial⟩ rfl fun k hk => ?_
  repeat (first | refine gG ?_ | refine zN1 (fun hlen => ?_) | refine zN2 (fun hlen => ?_))
  refine x_cond rfl (fun h => ?_) (fun h => ?_)
  · have hk' : k < l.length := by simpa using h
    obtain ⟨a, ha⟩ := nth hk'
    have hat := str_at ha
    rw [← Nat.mul_one k] at hat
    repeat (first | refine gG ?_ | refine zN1 (fun hlen => ?_) | refine zN2 (fun hlen => ?_))
    refine zIx k hk' ?_
    repeat (first | refine gG ?_ | refine zN1 (fun hlen => ?_) | refine zN2 (fun hlen => ?_))
    refine zEl1 hat ?_
    cases hp : decide (s = a)
    · repeat (first | refine gG ?_ | refine zN1 (fun hlen => ?_) | refine zN2 (fun hlen => ?_))
      exact ⟨k + 1, ⟨hk', idxAt_no hk.2 ha hp⟩, by omega, x_wkd 0 ⟨rfl, trivial⟩ rfl (by repeat (first | exact ag_refl | refine ag_upd rfl ?_ | refine ag_at rfl rfl ?_))⟩
    · repeat (first | refine gG ?_ | refine zN1 (fun hlen => ?_) | refine zN2 (fun hlen => ?_))
      first | refine zR ?_ | refine zQ ?_
      rw [posOf, idxAt_yes hk.2 ha hp]; rfl
  · have hk' : k = l.length := by have : ¬ k < l.length := by simpa using h
                                  omega
    subst hk'
    repeat (first | refine gG ?_ | refine zN1 (fun hlen => ?_) | refine zN2 (fun hlen => ?_))
    first | refine zR ?_ | refine zQ ?_
    rw [posOf, idxAt_end hk.2]; rfl
theorem has_pos (s : ByteArray) (l : List ByteArray) : decide (0 ≤ posOf s l) = hasS l s := by
  rw [posOf, idxI_any, hasS]
  congr 1
  funext x
  exact decide_eq_decide.2 eq_comm
set_option maxRecDepth 100000 in
set_option maxHeartbeats 1000000 in
theorem contains_af (l : List ByteArray) (s : ByteArray) : AF Try.prog 109 [strRow l, .lit (.string s)] (· = .lit (.bool (hasS l s))) := by
  have hc := idxStr_af l s
  have hh := has_pos s l
  generalize posOf s l = p at *
  refine af_enter tok Try.func109 Try.ntmps109 Try.results109 rfl (by kernel_rfl) rfl rfl fun F hX => ?_
  repeat (first | refine gG ?_)
  refine zCall (hc) ?_
  rintro _ rfl
  repeat (first | refine gG ?_)
  first | refine zR ?_ | refine zQ ?_
  rw [← hh]
  rfl
abbrev Sd := Ex × List ByteArray
def Sd.ts (p : Sd) : List T := p.1.ts ++ [strRow p.2]
theorem Sd.ts_len (p : Sd) : (Sd.ts p).length = 9 := by rw [Sd.ts, List.length_append, Ex.ts_len]; rfl
def Sd.row (l : List Sd) : T := .row l.length 9 (l.flatMap Sd.ts)
theorem Sd.at {l : List Sd} {k : Nat} {p : Sd} (h : l[k]? = some p) : ((l.flatMap Sd.ts).drop (k * 9)).take 9 = Sd.ts p := flat_at Sd.ts 9 Sd.ts_len h
end Go.Proofs.Ytllgibfmddihgaa
namespace Go.Proofs.Ytllgibfmddihgaa
open Go.RowKit
def Ex.kd : Ex → Int
  | .mk k _ _ _ _ _ _ _ => k
def Ex.tx : Ex → ByteArray
  | .mk _ _ t _ _ _ _ _ => t
def bit1 (k : Int) : Nat :=
  if k = 20 then 1 else if k = 15 then 2 else if k = 14 then 4 else if k = 18 then 8 else if k = 19 then 16 else if k = 24 then 32 else if k = 25 then 32 else if k = 21 then 64 else if k = 22 then 64 else if k = 23 then 64 else 0
theorem bit1_lt (k : Int) : bit1 k < 128 := by
  unfold bit1
  repeat (split; omega)
  omega
def orL (l : List Nat) : Nat := l.foldl (fun a b => a ||| b) 0
theorem foldl_or : ∀ (l : List Nat) (z : Nat), l.foldl (fun a b => a ||| b) z = z ||| orL l
  | [], z => by simp [orL]
  | a :: l, z => by
    have h1 := foldl_or l (z ||| a)
    have h2 := foldl_or l (0 ||| a)
    simp only [orL, List.foldl_cons] at h1 h2 ⊢
    rw [h1, h2, Nat.zero_or, Nat.or_assoc]
theorem orL_cons (a : Nat) (l : List Nat) : orL (a :: l) = a ||| orL l := by
  have := foldl_or l (0 ||| a)
  rw [Nat.zero_or] at this
  rw [← this, orL, List.foldl_cons, Nat.zero_or]
theorem orL_snoc (l : List Nat) (a : Nat) : orL (l ++ [a]) = orL l ||| a := by simp [orL, List.foldl_append]
theorem orL_bit (i : Nat) : ∀ l : List Nat, (orL l).testBit i = true ↔ ∃ a ∈ l, a.testBit i = true
  | [] => by simp [orL]
  | a :: l => by rw [orL_cons, Nat.testBit_or, Bool.or_eq_true, orL_bit i l]; simp
theorem or_lt7 {a b : Nat} (ha : a < 128) (hb : b < 128) : a ||| b < 128 := Nat.or_lt_two_pow (n := 7) ha hb
theorem orL_lt : ∀ l : List Nat, (∀ a ∈ l, a < 128) → orL l < 128
  | [], _ => by simp [orL]
  | a :: l, h => by rw [orL_cons]; exact or_lt7 (h a (by simp)) (orL_lt l fun b hb => h b (by simp [hb]))
structure Qn where
  own : Nat
  calls : List ByteArray
  any : Bool
def isCall (x : Ex) : Bool := decide (x.kd = 9)
def isFun (x : Ex) : Bool := decide (x.kd = 10)
def isApply (x : Ex) : Bool := decide (x.kd = 11)
def Ex.own (e : Ex) : Nat := orL (e.walk.map fun x => bit1 x.kd)
def Ex.called (e : Ex) : List ByteArray := addS [] [] ((e.walk.filter isCall).map Ex.tx)
def Ex.eqn (e : Ex) : Qn := ⟨e.own, e.called, e.walk.any isApply⟩
def Qn.eval (q : Qn) (σ : ByteArray → Nat) (a : Nat) : Nat := bif q.any then (q.own ||| orL (q.calls.map σ)) ||| a else q.own ||| orL (q.calls.map σ)
theorem Ex.own_lt (e : Ex) : e.own < 128 := orL_lt _ fun a ha => by
  obtain ⟨x, _, rfl⟩ := List.mem_map.1 ha
  exact bit1_lt _
theorem addS_mem (s : ByteArray) : ∀ (L out : List ByteArray), s ∈ addS [] out L ↔ s ∈ out ∨ s ∈ L
  | [], out => by simp [addS]
  | x :: L, out => by
    rw [addS, addS_mem s L]
    cases h : hasS out x with
    | false => simp only [hasS, List.any_nil, Bool.or_self, cond_false, List.mem_append, List.mem_cons, List.not_mem_nil, or_assoc, false_or]
    | true =>
      have : x ∈ out := by
        simp only [hasS, List.any_eq_true, decide_eq_true_eq] at h
        obtain ⟨y, hy, rfl⟩ := h
        exact hy
      simp only [hasS, List.any_nil, Bool.false_or, cond_true, List.mem_cons]
      constructor
      · rintro (h1 | h1)
        · exact .inl h1
        · exact .inr (.inr h1)
      · rintro (h1 | h1 | h1)
        · exact .inl h1
        · subst h1; exact .inl this
        · exact .inr h1
theorem called_mem (e : Ex) (s : ByteArray) : s ∈ e.called ↔ ∃ x ∈ e.walk, x.kd = 9 ∧ x.tx = s := by
  rw [Ex.called, addS_mem]
  simp only [List.not_mem_nil, false_or, List.mem_map, List.mem_filter, isCall, decide_eq_true_eq]
  constructor
  · rintro ⟨x, ⟨h1, h2⟩, h3⟩; exact ⟨x, h1, h2, h3⟩
  · rintro ⟨x, h1, h2, h3⟩; exact ⟨x, ⟨h1, h2⟩, h3⟩
/-- what an expression leads to -/
inductive Leads (F : List Fu) (W : List Ex) : Ex → Ex → Prop where
  | here (e : Ex) : Leads F W e e
  | call {e x y : Ex} {f : Fu} (hx : x ∈ e.walk) (hk : x.kd = 9) (hf : f ∈ F) (hn : f.name = x.tx) (h : Leads F W f.body y) : Leads F W e y
  | app {e x v y : Ex} (hx : x ∈ e.walk) (hk : x.kd = 11) (hv : v ∈ W) (h : Leads F W v y) : Leads F W e y
def Does (F : List Fu) (W : List Ex) (e : Ex) (i : Nat) : Prop := ∃ y, Leads F W e y ∧ y.own.testBit i = true
/-- numbers of what expressions do -/
def DoOk (F : List Fu) (W : List Ex) (D : Ex → Nat) : Prop := ∀ e, D e < 128 ∧ ∀ i, (D e).testBit i = true ↔ Does F W e i
theorem bits_ex (Q : Nat → Prop) : ∀ k : Nat, ∃ n, n < 2 ^ k ∧ ∀ i, n.testBit i = true ↔ (Q i ∧ i < k)
  | 0 => ⟨0, by simp, fun i => by simp⟩
  | k + 1 => by
    obtain ⟨n, h1, h2⟩ := bits_ex Q k
    have h3 : n < 2 ^ (k + 1) := by rw [Nat.pow_succ]; omega
    by_cases hq : Q k
    · refine ⟨n ||| 2 ^ k, Nat.or_lt_two_pow h3 (by rw [Nat.pow_succ]; have := Nat.two_pow_pos k; omega), fun i => ?_⟩
      rw [Nat.testBit_or, Bool.or_eq_true, h2, Nat.testBit_two_pow, decide_eq_true_eq]
      constructor
      · rintro (⟨h, h'⟩ | rfl)
        · exact ⟨h, by omega⟩
        · exact ⟨hq, by omega⟩
      · rintro ⟨h, h'⟩
        by_cases hi : i = k
        · exact .inr hi.symm
        · exact .inl ⟨h, by omega⟩
    · refine ⟨n, h3, fun i => ?_⟩
      rw [h2]
      constructor
      · rintro ⟨h, h'⟩; exact ⟨h, by omega⟩
      · rintro ⟨h, h'⟩
        refine ⟨h, ?_⟩
        by_cases hi : i = k
        · subst hi; exact absurd h hq
        · omega
theorem bit_lt7 {n i : Nat} (hn : n < 128) (h : n.testBit i = true) : i < 7 := by
  rcases Nat.lt_or_ge i 7 with h1 | h1
  · exact h1
  · have h2 : n < 2 ^ i := Nat.lt_of_lt_of_le hn (by have := Nat.pow_le_pow_right (n := 2) (by omega) h1; simpa using this)
    rw [Nat.testBit_lt_two_pow h2] at h
    cases h
theorem doOk_ex (F : List Fu) (W : List Ex) : ∃ D, DoOk F W D := by
  have h : ∀ e, ∃ n, n < 128 ∧ ∀ i, n.testBit i = true ↔ Does F W e i := fun e => by
    obtain ⟨n, h1, h2⟩ := bits_ex (Does F W e) 7
    refine ⟨n, h1, fun i => ?_⟩
    rw [h2]
    constructor
    · exact And.left
    · intro h
      obtain ⟨y, h3, h4⟩ := h
      exact ⟨⟨y, h3, h4⟩, bit_lt7 y.own_lt h4⟩
  exact ⟨fun e => (h e).choose, fun e => (h e).choose_spec⟩
/-- nothing but what is led to -/
def Sound (F : List Fu) (W : List Ex) (σ : ByteArray → Nat) (a : Nat) : Prop :=
  (∀ s i, (σ s).testBit i = true → ∃ f ∈ F, f.name = s ∧ Does F W f.body i) ∧ (∀ i, a.testBit i = true → ∃ v ∈ W, Does F W v i) ∧ (∀ s, σ s < 128) ∧ a < 128
theorem Sound.init (F : List Fu) (W : List Ex) : Sound F W (fun _ => 0) 0 := ⟨by simp, by simp, by simp, by omega⟩
theorem eval_bit (q : Qn) (σ : ByteArray → Nat) (a i : Nat) : (q.eval σ a).testBit i = true ↔ q.own.testBit i = true ∨ (∃ s ∈ q.calls, (σ s).testBit i = true) ∨ (q.any = true ∧ a.testBit i = true) := by
  have hm : (∃ b ∈ q.calls.map σ, b.testBit i = true) ↔ ∃ s ∈ q.calls, (σ s).testBit i = true := by
    constructor
    · rintro ⟨b, hb, h⟩
      obtain ⟨s, hs, rfl⟩ := List.mem_map.1 hb
      exact ⟨s, hs, h⟩
    · rintro ⟨s, hs, h⟩
      exact ⟨_, List.mem_map_of_mem hs, h⟩
  unfold Qn.eval
  cases q.any
  · simp only [cond, Nat.testBit_or, Bool.or_eq_true, orL_bit, hm]
    simp
  · simp only [cond, Nat.testBit_or, Bool.or_eq_true, orL_bit, hm]
    simp [or_assoc]
theorem eval_lt {F : List Fu} {W : List Ex} {σ : ByteArray → Nat} {a : Nat} (h : Sound F W σ a) (e : Ex) : e.eqn.eval σ a < 128 := by
  have h1 : e.eqn.own ||| orL (e.eqn.calls.map σ) < 128 := or_lt7 e.own_lt (orL_lt _ fun b hb => by
    obtain ⟨s, _, rfl⟩ := List.mem_map.1 hb
    exact h.2.2.1 s)
  unfold Qn.eval
  cases e.eqn.any
  · exact h1
  · exact or_lt7 h1 h.2.2.2
theorem eval_does {F : List Fu} {W : List Ex} {σ : ByteArray → Nat} {a : Nat} (h : Sound F W σ a) {e : Ex} {i : Nat} (hb : (e.eqn.eval σ a).testBit i = true) : Does F W e i := by
  rcases (eval_bit _ _ _ _).1 hb with h1 | ⟨s, h1, h2⟩ | ⟨h1, h2⟩
  · exact ⟨e, .here e, h1⟩
  · obtain ⟨x, h3, h4, rfl⟩ := (called_mem e s).1 h1
    obtain ⟨f, h5, h6, y, h7, h8⟩ := h.1 _ _ h2
    exact ⟨y, .call h3 h4 h5 h6 h7, h8⟩
  · obtain ⟨x, h3, h4⟩ := List.any_eq_true.1 h1
    obtain ⟨v, h5, y, h7, h8⟩ := h.2.1 _ h2
    exact ⟨y, .app h3 (by simpa [isApply] using h4) h5 h7, h8⟩
def updS (σ : ByteArray → Nat) (s : ByteArray) (n : Nat) : ByteArray → Nat := fun x => if x = s then n else σ x
theorem Sound.name {F : List Fu} {W : List Ex} {σ : ByteArray → Nat} {a : Nat} (h : Sound F W σ a) {f : Fu} (hf : f ∈ F) : Sound F W (updS σ f.name (σ f.name ||| f.body.eqn.eval σ a)) a := by
  refine ⟨fun s i hb => ?_, h.2.1, fun s => ?_, h.2.2.2⟩
  · unfold updS at hb
    split at hb
    · next e =>
      subst e
      rw [Nat.testBit_or, Bool.or_eq_true] at hb
      rcases hb with hb | hb
      · exact h.1 _ _ hb
      · exact ⟨f, hf, rfl, eval_does h hb⟩
    · exact h.1 _ _ hb
  · unfold updS
    split
    · exact or_lt7 (h.2.2.1 _) (eval_lt h _)
    · exact h.2.2.1 _
theorem Sound.any {F : List Fu} {W : List Ex} {σ : ByteArray → Nat} {a : Nat} (h : Sound F W σ a) {v : Ex} (hv : v ∈ W) : Sound F W σ (a ||| v.eqn.eval σ a) := by
  refine ⟨h.1, fun i hb => ?_, h.2.2.1, or_lt7 h.2.2.2 (eval_lt h _)⟩
  rw [Nat.testBit_or, Bool.or_eq_true] at hb
  rcases hb with hb | hb
  · exact h.2.1 _ hb
  · exact ⟨v, hv, eval_does h hb⟩
/-- nothing is left to be added -/
def Shut (σ : ByteArray → Nat) (a : Nat) (f : Fu) : Prop := σ f.name ||| f.body.eqn.eval σ a = σ f.name
def ShutV (σ : ByteArray → Nat) (a : Nat) (v : Ex) : Prop := a ||| v.eqn.eval σ a = a
theorem or_sub {a b i : Nat} (h : a ||| b = a) (hb : b.testBit i = true) : a.testBit i = true := by
  rw [← h, Nat.testBit_or, hb, Bool.or_true]
theorem leads_eval {F : List Fu} {W : List Ex} {σ : ByteArray → Nat} {a : Nat} (hF : ∀ f ∈ F, Shut σ a f) (hW : ∀ v ∈ W, ShutV σ a v) {e y : Ex} (h : Leads F W e y) {i : Nat} (hi : y.own.testBit i = true) : (e.eqn.eval σ a).testBit i = true := by
  induction h with
  | here e => exact (eval_bit _ _ _ _).2 (.inl hi)
  | call hx hk hf hn h ih => exact (eval_bit _ _ _ _).2 (.inr (.inl ⟨_, (called_mem _ _).2 ⟨_, hx, hk, rfl⟩, by rw [← hn]; exact or_sub (hF _ hf) (ih hi)⟩))
  | app hx hk hv h ih => exact (eval_bit _ _ _ _).2 (.inr (.inr ⟨List.any_eq_true.2 ⟨_, hx, by simp [isApply, hk]⟩, or_sub (hW _ hv) (ih hi)⟩))
theorem bits_eq {n m : Nat} (h : ∀ i, n.testBit i = true ↔ m.testBit i = true) : n = m := Nat.eq_of_testBit_eq fun i => by
  have := h i
  cases h1 : n.testBit i <;> cases h2 : m.testBit i <;> simp_all
theorem eval_eq {F : List Fu} {W : List Ex} {σ : ByteArray → Nat} {a : Nat} {D : Ex → Nat} (hD : DoOk F W D) (h : Sound F W σ a) (hF : ∀ f ∈ F, Shut σ a f) (hW : ∀ v ∈ W, ShutV σ a v) (e : Ex) : e.eqn.eval σ a = D e :=
  bits_eq fun i => by
    rw [(hD e).2]
    exact ⟨eval_does h, fun ⟨y, h1, h2⟩ => leads_eval hF hW h1 h2⟩
theorem any_eq {F : List Fu} {W : List Ex} {σ : ByteArray → Nat} {a : Nat} {D : Ex → Nat} (hD : DoOk F W D) (h : Sound F W σ a) (hF : ∀ f ∈ F, Shut σ a f) (hW : ∀ v ∈ W, ShutV σ a v) : a = orL (W.map D) :=
  bits_eq fun i => by
    rw [orL_bit]
    constructor
    · intro hb
      obtain ⟨v, h1, h2⟩ := h.2.1 i hb
      exact ⟨D v, List.mem_map_of_mem h1, ((hD v).2 i).2 h2⟩
    · rintro ⟨b, hb, h1⟩
      obtain ⟨v, h2, rfl⟩ := List.mem_map.1 hb
      rw [← eval_eq hD h hF hW v] at h1
      exact or_sub (hW v h2) h1
/-- what may still be added -/
def room (F : List Fu) (σ : ByteArray → Nat) (a : Nat) : Nat := (F.map fun f => 127 - σ f.name).sum + (127 - a)
theorem sumLeOf {α : Type} (f g : α → Nat) : ∀ l : List α, (∀ x ∈ l, f x ≤ g x) → (l.map f).sum ≤ (l.map g).sum
  | [], _ => by simp
  | x :: l, h => by
    have h1 := h x (by simp)
    have h2 := sumLeOf f g l fun y hy => h y (by simp [hy])
    simp only [List.map_cons, List.sum_cons]; omega
theorem sumLtOf {α : Type} (f g : α → Nat) : ∀ l : List α, (∀ x ∈ l, f x ≤ g x) → (∃ x ∈ l, f x < g x) → (l.map f).sum < (l.map g).sum
  | [], _, h => by obtain ⟨x, h, _⟩ := h; cases h
  | x :: l, h, h' => by
    have h1 := h x (by simp)
    have h2 := sumLeOf f g l fun y hy => h y (by simp [hy])
    simp only [List.map_cons, List.sum_cons]
    obtain ⟨z, h3, h4⟩ := h'
    rcases List.mem_cons.1 h3 with rfl | h3
    · omega
    · have := sumLtOf f g l (fun y hy => h y (by simp [hy])) ⟨z, h3, h4⟩; omega
theorem or_gt {a b : Nat} (h : a ||| b ≠ a) : a < a ||| b := Nat.lt_of_le_of_ne Nat.left_le_or (Ne.symm h)
theorem room_name {F : List Fu} {W : List Ex} {σ : ByteArray → Nat} {a : Nat} (h : Sound F W σ a) {f : Fu} (hf : f ∈ F) (hn : ¬ Shut σ a f) : room F (updS σ f.name (σ f.name ||| f.body.eqn.eval σ a)) a < room F σ a := by
  have h1 := or_gt hn
  have h2 := (h.name hf).2.2.1 f.name
  have h3 : updS σ f.name (σ f.name ||| f.body.eqn.eval σ a) f.name = σ f.name ||| f.body.eqn.eval σ a := by simp [updS]
  unfold room
  have := sumLtOf (fun g : Fu => 127 - updS σ f.name (σ f.name ||| f.body.eqn.eval σ a) g.name) (fun g : Fu => 127 - σ g.name) F (fun g _ => by
    unfold updS
    split
    · next e => simp only [e]; omega
    · exact Nat.le_refl _) ⟨f, hf, by rw [h3] at h2 ⊢; omega⟩
  omega
theorem room_any {F : List Fu} {W : List Ex} {σ : ByteArray → Nat} {a : Nat} (h : Sound F W σ a) {v : Ex} (hv : v ∈ W) (hn : ¬ ShutV σ a v) : room F σ (a ||| v.eqn.eval σ a) < room F σ a := by
  have h1 := or_gt hn
  have h2 := (h.any hv).2.2.2
  unfold room
  omega
def Within (F : List Fu) (W : List Ex) (R : List Ex) (x : Ex) : Prop := (x.kd = 9 → ∀ f ∈ F, f.name = x.tx → f.body ∈ R) ∧ (x.kd = 11 → ∀ v ∈ W, v ∈ R)
theorem leads_in {F : List Fu} {W : List Ex} {R : List Ex} (h : ∀ y ∈ R, ∀ x ∈ y.walk, Within F W R x) {e y : Ex} (hl : Leads F W e y) : e ∈ R → y ∈ R := by
  induction hl with
  | here e => exact id
  | call hx hk hf hn _ ih => exact fun he => ih ((h _ he _ hx).1 hk _ hf hn)
  | app hx hk hv _ ih => exact fun he => ih ((h _ he _ hx).2 hk _ hv)
theorem Leads.snoc_call {F : List Fu} {W : List Ex} {e y x : Ex} {f : Fu} (h : Leads F W e y) (hx : x ∈ y.walk) (hk : x.kd = 9) (hf : f ∈ F) (hn : f.name = x.tx) : Leads F W e f.body := by
  induction h with
  | here e => exact .call hx hk hf hn (.here _)
  | call a b c d _ ih => exact .call a b c d (ih hx)
  | app a b c _ ih => exact .app a b c (ih hx)
theorem Leads.snoc_app {F : List Fu} {W : List Ex} {e y x v : Ex} (h : Leads F W e y) (hx : x ∈ y.walk) (hk : x.kd = 11) (hv : v ∈ W) : Leads F W e v := by
  induction h with
  | here e => exact .app hx hk hv (.here _)
  | call a b c d _ ih => exact .call a b c d (ih hx)
  | app a b c _ ih => exact .app a b c (ih hx)
/-- the state of the search: the row, the names, whether what may be applied is there -/
structure Led (F : List Fu) (W : List Ex) (e : Ex) (R : List Ex) (ns : List ByteArray) (ap : Bool) : Prop where
  root : e ∈ R
  sound : ∀ y ∈ R, Leads F W e y
  names : ∀ s ∈ ns, ∀ f ∈ F, f.name = s → f.body ∈ R
  apps : ap = true → ∀ v ∈ W, v ∈ R
  len : R.length = 1 + (bif ap then W.length else 0) + (F.filter fun f => hasS ns f.name).length
/-- an expression has been looked at -/
def Seen (ns : List ByteArray) (ap : Bool) (x : Ex) : Prop := (x.kd = 9 → x.tx ∈ ns) ∧ (x.kd = 11 → ap = true)
theorem Seen.within {F : List Fu} {W : List Ex} {e : Ex} {R : List Ex} {ns : List ByteArray} {ap : Bool} (h : Led F W e R ns ap) {x : Ex} (hs : Seen ns ap x) : Within F W R x :=
  ⟨fun hk f hf hn => h.names _ (hs.1 hk) f hf hn, fun hk => h.apps (hs.2 hk)⟩
theorem Led.init (F : List Fu) (W : List Ex) (e : Ex) : Led F W e [e] [] false :=
  ⟨by simp, by simp only [List.mem_singleton]; rintro y rfl; exact .here _, by simp, by simp, by simp [hasS]⟩
theorem Led.le {F : List Fu} {W : List Ex} {e : Ex} {R : List Ex} {ns : List ByteArray} {ap : Bool} (h : Led F W e R ns ap) : R.length ≤ 1 + W.length + F.length := by
  have h1 := h.len
  have h2 := List.length_filter_le (fun f => hasS ns f.name) F
  cases ap <;> simp only [cond] at h1 <;> omega
theorem Led.apply {F : List Fu} {W : List Ex} {e : Ex} {R : List Ex} {ns : List ByteArray} (h : Led F W e R ns false) {y x : Ex} (hy : y ∈ R) (hx : x ∈ y.walk) (hk : x.kd = 11) : Led F W e (R ++ W) ns true := by
  refine ⟨by simp [h.root], fun z hz => ?_, fun s hs f hf hn => by simp [h.names s hs f hf hn], fun _ v hv => by simp [hv], ?_⟩
  · rcases List.mem_append.1 hz with hz | hz
    · exact h.sound z hz
    · exact (h.sound y hy).snoc_app hx hk hz
  · have := h.len
    simp only [cond, List.length_append] at this ⊢
    omega
theorem filter_more (F : List Fu) (ns : List ByteArray) (s : ByteArray) (hs : hasS ns s = false) : (F.filter fun f => hasS (ns ++ [s]) f.name).length = (F.filter fun f => hasS ns f.name).length + (F.filter fun f => decide (f.name = s)).length := by
  induction F with
  | nil => rfl
  | cons f F ih =>
    have e : hasS (ns ++ [s]) f.name = (hasS ns f.name || decide (f.name = s)) := by
      rw [hasS_app, hasS_one]
      congr 1
      by_cases h : s = f.name
      · simp [h]
      · simp [h, Ne.symm h]
    simp only [List.filter_cons, e]
    by_cases h : f.name = s
    · rw [h, hs]; simp only [Bool.false_or, decide_true, if_true, List.length_cons, Bool.false_eq_true, if_false]; omega
    · cases hh : hasS ns f.name <;> simp [h, ih]; omega
theorem Led.call {F : List Fu} {W : List Ex} {e : Ex} {R : List Ex} {ns : List ByteArray} {ap : Bool} (h : Led F W e R ns ap) {y x : Ex} (hy : y ∈ R) (hx : x ∈ y.walk) (hk : x.kd = 9) (hs : hasS ns x.tx = false) :
    Led F W e (R ++ (F.filter fun f => decide (f.name = x.tx)).map Fu.body) (ns ++ [x.tx]) ap := by
  refine ⟨by simp [h.root], fun z hz => ?_, fun s hs' f hf hn => ?_, fun ha v hv => by simp [h.apps ha v hv], ?_⟩
  · rcases List.mem_append.1 hz with hz | hz
    · exact h.sound z hz
    · obtain ⟨f, hf, rfl⟩ := List.mem_map.1 hz
      rw [List.mem_filter, decide_eq_true_eq] at hf
      exact (h.sound y hy).snoc_call hx hk hf.1 hf.2
  · rcases List.mem_append.1 hs' with hs' | hs'
    · simp [h.names s hs' f hf hn]
    · rw [List.mem_singleton] at hs'
      subst hs'
      exact List.mem_append_right _ (List.mem_map_of_mem (List.mem_filter.2 ⟨hf, by simpa using hn⟩))
  · have := h.len
    rw [List.length_append, List.length_map, filter_more F ns x.tx hs]
    omega
theorem Seen.more {ns ns' : List ByteArray} {ap ap' : Bool} {x : Ex} (h : Seen ns ap x) (hn : ∀ s ∈ ns, s ∈ ns') (ha : ap = true → ap' = true) : Seen ns' ap' x := ⟨fun hk => hn _ (h.1 hk), fun hk => ha (h.2 hk)⟩
/-- the end of the search: what is in the row does what the expression does -/
theorem Led.does {F : List Fu} {W : List Ex} {e : Ex} {R : List Ex} {ns : List ByteArray} {ap : Bool} (h : Led F W e R ns ap) (hs : ∀ y ∈ R, ∀ x ∈ y.walk, Seen ns ap x) {D : Ex → Nat} (hD : DoOk F W D) : orL (R.map Ex.own) = D e :=
  bits_eq fun i => by
    rw [(hD e).2, orL_bit]
    constructor
    · rintro ⟨b, hb, h1⟩
      obtain ⟨y, h2, rfl⟩ := List.mem_map.1 hb
      exact ⟨y, h.sound y h2, h1⟩
    · rintro ⟨y, h1, h2⟩
      exact ⟨y.own, List.mem_map_of_mem (leads_in (fun z hz x hx => (hs z hz x hx).within h) h1 h.root), h2⟩
def Pr.values (p : Pr) : List Ex := p.bodies.flatMap fun b => b.walk.filter isFun
end Go.Proofs.Ytllgibfmddihgaa
namespace Go.Proofs.Ytllgibfmddihgaa
open Go.RowKit
section
variable {md : Region.Mode} {ops : Array Oper} {cls : Nat → Nat}
/-- m says, bit by bit, for whom each operation waits -/
def claimB (md : Region.Mode) (ops : Array Oper) (m : List Nat) : Bool :=
  (List.range ops.size).all fun j => (List.range ops.size).all fun i => !(m.getD j 0).testBit i ||
    (match ops[j]? with
      | some oj => oj.after.any fun e => Region.binds md e && (e.on == i || (Nat.blt e.on j && (m.getD e.on 0).testBit i))
      | none => false)
theorem claim_reach {m : List Nat} (h : claimB md ops m = true) {i : Nat} (hi : i < ops.size) : ∀ (f j : Nat), j < f → j < ops.size → (m.getD j 0).testBit i = true → reachB md ops f j i = true
  | 0, _, h0, _, _ => by omega
  | f + 1, j, hf, hj, hb => by
    have h1 := List.all_eq_true.1 (List.all_eq_true.1 h j (List.mem_range.2 hj)) i (List.mem_range.2 hi)
    rw [hb] at h1
    simp only [Bool.not_true, Bool.false_or] at h1
    unfold reachB
    split at h1
    · rename_i oj hoj
      rw [hoj]
      obtain ⟨e, he, hq⟩ := Array.any_eq_true'.1 h1
      refine Array.any_eq_true'.2 ⟨e, he, ?_⟩
      simp only [Bool.and_eq_true, Bool.or_eq_true, beq_iff_eq] at hq ⊢
      refine ⟨hq.1, hq.2.imp id fun h2 => ?_⟩
      have hlt : e.on < j := by simpa using h2.1
      exact claim_reach h hi f e.on (by omega) (by omega) h2.2
    · cases h1
def freeC (ops : Array Oper) (cls : Nat → Nat) (m : List Nat) (listed : Array Bool) (i : Nat) : Bool :=
  match ops[i]? with
  | none => false
  | some oi => (List.range ops.size).all fun j => j == i || listed.getD j true || (m.getD j 0).testBit i ||
      (match ops[j]? with | some oj => oi.apart ops oj && (cls j != 2 || cls i == 0) | none => true)
theorem freeC_A {m : List Nat} (h : claimB md ops m = true) {listed : Array Bool} {i : Nat} (hf : freeC ops cls m listed i = true) : freeA md ops cls listed i = true := by
  unfold freeC at hf
  unfold freeA
  split at hf
  · cases hf
  · rename_i oi hoi
    rw [hoi]
    refine List.all_eq_true.2 fun j hj => ?_
    have h1 := List.all_eq_true.1 hf j hj
    simp only [Bool.or_eq_true] at h1 ⊢
    rcases h1 with ((h1 | h1) | h1) | h1
    · exact .inl (.inl (.inl h1))
    · exact .inl (.inl (.inr h1))
    · exact .inl (.inr (claim_reach h (Array.getElem?_eq_some_iff.1 hoi).1 _ j (List.mem_range.1 hj) (List.mem_range.1 hj) h1))
    · exact .inr h1
def ordC (md : Region.Mode) (ops : Array Oper) (cls : Nat → Nat) (m : List Nat) : List Nat → Array Bool → Bool
  | [], listed => (Region.ready md ops listed).isEmpty
  | i :: r, listed => (if 2 ≤ cls i then decide (Region.ready md ops listed = [i]) else (Region.ready md ops listed).contains i && freeC ops cls m listed i) && ordC md ops cls m r (listed.setIfInBounds i true)
theorem ordC_B {m : List Nat} (h : claimB md ops m = true) : ∀ (r : List Nat) (listed : Array Bool), ordC md ops cls m r listed = true → ordB md ops cls r listed = true
  | [], listed, ho => ho
  | i :: r, listed, ho => by
    simp only [ordC, ordB, Bool.and_eq_true] at ho ⊢
    refine ⟨?_, ordC_B h r _ ho.2⟩
    by_cases h2 : 2 ≤ cls i
    · rw [if_pos h2] at ho ⊢; exact ho.1
    · rw [if_neg h2] at ho ⊢
      have h3 := ho.1
      simp only [Bool.and_eq_true] at h3 ⊢
      exact ⟨h3.1, freeC_A h h3.2⟩
end
section
variable {P : Program} {F : Frm} {τ : Nat → AV} {hp : List Blk} {N : Nat} {Q : Exit → AS → Prop} {id : Nat} {l : List Oper}
theorem ac_drawB (m c r : List Nat) (hm : P.follows .mixedOrders = true) (hB : (claimB .any l.toArray m && (ordC .any l.toArray (clsOf c) m r (Array.replicate l.toArray.size false) && Nat.beq r.length l.length)) = true)
    (h : WO P F l.toArray N (clsOf c) (fun τ' hp' => Q .normal ⟨τ', hp', N⟩) r τ hp) : AC P F (.region id l.toArray true) Q ⟨τ, hp, N⟩ := by
  simp only [Bool.and_eq_true] at hB
  refine ac_draw c r hm ?_ h
  simp only [Bool.and_eq_true]
  exact ⟨ordC_B hB.1 _ _ hB.2.1, hB.2.2⟩
/-- of the slots only those of l are kept -/
theorem wk_keep {l : List (Nat × AV)} (hl : HasT τ l) : Wk F ⟨τ, hp, N⟩ ⟨atT (fun _ => .junk) [] l, hp, N⟩ := by
  intro M a w hr
  refine ⟨M, fun i => ?_, hr.size, hr.defers, hr.heap⟩
  have h0 := hr.tmps i
  dsimp only at h0 ⊢
  have key : ∀ (l : List (Nat × AV)) (v : AV), HasT τ l → lkp i l = some v → τ i = v := by
    intro l
    induction l with
    | nil => intro v _ h; cases h
    | cons p l ih =>
      obtain ⟨d, u⟩ := p
      intro v hh h
      unfold lkp at h
      cases hc : Nat.beq i d with
      | true =>
        rw [hc] at h
        simp only [cond_true, Option.some.injEq] at h
        rw [Nat.eq_of_beq_eq_true hc, hh.1, h]
      | false =>
        rw [hc] at h
        exact ih v hh.2 h
  unfold atT
  split
  · rename_i v hv
    rw [← key l v hl hv]
    exact h0
  · cases memB i [] <;> simp only [cond, RA]
theorem x_keep {c : Go.Code} (l : List (Nat × AV)) (hl : HasT τ l) (hq : AC P F c Q ⟨atT (fun _ => .junk) [] l, hp, N⟩) : AC P F c Q ⟨τ, hp, N⟩ := ac_wk (wk_keep hl) hq
end
end Go.Proofs.Ytllgibfmddihgaa
namespace Go.Proofs.Ytllgibfmddihgaa
open Go.RowKit
theorem TabOk.array {P : Program} {L : Tab} (hL : TabOk P L) {t e : TypeId} {n : Nat} {i : TI} (h : L.look t = some i) (hd : i.d = .array n e) : P.underlying t = some (.array n e) := by
  obtain ⟨d, h1, h2⟩ := hL.desc h
  rw [hd] at h2
  cases d <;> simp [descB] at h2
  rw [h1, h2.1, h2.2]
end Go.Proofs.Ytllgibfmddihgaa
namespace Go.Proofs.Ytllgibfmddihgaa
open Go.RowKit
inductive Pt where
  | fin (r : List Nat)
  | fork (p : List Nat) (i : Nat) (a : Pt) (j : Nat) (b : Pt)
  | fork3 (p : List Nat) (i : Nat) (a : Pt) (j : Nat) (b : Pt) (k : Nat) (c : Pt)
  | fork4 (p : List Nat) (i : Nat) (a : Pt) (j : Nat) (b : Pt) (k : Nat) (c : Pt) (m : Nat) (d : Pt)
def Pt.n : Pt → Nat
  | .fin r => r.length
  | .fork p _ a _ _ => a.n + 1 + p.length
  | .fork3 p _ a _ _ _ _ => a.n + 1 + p.length
  | .fork4 p _ a _ _ _ _ _ _ => a.n + 1 + p.length
end Go.Proofs.Ytllgibfmddihgaa
namespace Go.Proofs.Ytllgibfmddihgaa
open Go.RowKit
/-- the type of a structure's field -/
def fty (P : Program) (s : TypeId) (k : Nat) : Option TypeId := match P.underlying s with
  | some (.struct fs) => (fs[k]?).map (·.type)
  | _ => none
end Go.Proofs.Ytllgibfmddihgaa
namespace Go.Proofs.Ytllgibfmddihgaa
open Go.RowKit
theorem nat_bits {a : Nat} (h : a < 128) : ((a : Int) % 2 ^ IntKind.i64.bits).toNat = a := by
  have : ((2 : Int) ^ IntKind.i64.bits) = 18446744073709551616 := by decide
  rw [this]; omega
theorem or_i64 {a b : Nat} (ha : a < 128) (hb : b < 128) : IntKind.i64.wrap (((((a : Nat) : Int) % 2 ^ IntKind.i64.bits).toNat ||| (((b : Nat) : Int) % 2 ^ IntKind.i64.bits).toNat : Nat) : Int) = ((a ||| b : Nat) : Int) := by
  have h : a ||| b < 2 ^ 7 := Nat.or_lt_two_pow (n := 7) ha hb
  rw [nat_bits ha, nat_bits hb, IntWalk.i64_in _ (by omega)]
theorem and_i64 {a b : Nat} (ha : a < 128) (hb : b < 128) : IntKind.i64.wrap (((((a : Nat) : Int) % 2 ^ IntKind.i64.bits).toNat &&& (((b : Nat) : Int) % 2 ^ IntKind.i64.bits).toNat : Nat) : Int) = ((a &&& b : Nat) : Int) := by
  have h : a &&& b ≤ a := Nat.and_le_left
  rw [nat_bits ha, nat_bits hb, IntWalk.i64_in _ (by omega)]
section
variable {P : Program} {F : Frm} {L : Tab} {d : Option Tmp} {ty : TypeId} {pos : String} {aft : Array Edge} {g : Option (Nat × Bool)} {ρ : Operand → AV} {hp : List Blk} {K : AV → List Blk → Prop}
theorem zOrN {t t' : TypeId} {x y : Operand} {a b : Nat} (h : K (.c (.lit (.int .i64 ((a ||| b : Nat) : Int)))) hp) (hx : ρ x = .c (.lit (.int .i64 (a : Nat))) := by exact rfl) (hy : ρ y = .c (.lit (.int .i64 (b : Nat))) := by exact rfl) (ha : a < 128 := by first | assumption | omega) (hb : b < 128 := by first | assumption | omega) : LO P F ⟨d, .binOp .or t x y t', ty, pos, aft, g⟩ ρ hp K :=
  lo_or hx hy (or_i64 ha hb) h
theorem zAndN {t t' : TypeId} {x y : Operand} {a b : Nat} (h : K (.c (.lit (.int .i64 ((a &&& b : Nat) : Int)))) hp) (hx : ρ x = .c (.lit (.int .i64 (a : Nat))) := by exact rfl) (hy : ρ y = .c (.lit (.int .i64 (b : Nat))) := by exact rfl) (ha : a < 128 := by first | assumption | omega) (hb : b < 128 := by first | assumption | omega) : LO P F ⟨d, .binOp .and t x y t', ty, pos, aft, g⟩ ρ hp K :=
  lo_and hx hy (and_i64 ha hb) h
theorem lo_ins {xT : TypeId} {x y z : Operand} (h : LO P F ⟨d, .mapUpdate xT x y z, ty, pos, aft, g⟩ ρ hp K) : LO P F ⟨d, .insert xT x y z, ty, pos, aft, g⟩ ρ hp K :=
  ⟨fun M e w he hh => h.out M e w he hh⟩
variable {kT eT xT : TypeId} {x y z : Operand} {i b : Nat}
theorem zIni (kT eT : TypeId) {s : Int} {l : List (Int × T)} {t : T} {hp' : List Blk} (h : K (.c (.lit undef)) hp') (hu : isMap P xT = some (kT, eT) := by kernel_rfl) (hk : P.underlying kT = some (.int .i64) := by kernel_rfl) (hx : ρ x = .own i (.map (some b)) := by exact rfl) (hi : hp[i]? = some (.mp b (mkeys (Value.int .i64) l)) := by exact rfl) (hy : ρ y = .c (.lit (.int .i64 s)) := by exact rfl) (hv : ρ z = .c t := by exact rfl) (hf : evl (hp.set i (.mp b (mkeys (Value.int .i64) (mput s t l)))) = some hp' := by exact rfl) :
    LO P F ⟨d, .insert xT x y z, ty, pos, aft, g⟩ ρ hp K := lo_ins (zUpi kT eT h hu hk hx hi hy hv hf)
end
end Go.Proofs.Ytllgibfmddihgaa
namespace Go.Proofs.Ytllgibfmddihgaa
open Go.RowKit
set_option maxRecDepth 100000 in
set_option maxHeartbeats 4000000 in
theorem single_af (e : Ex) : AF Try.prog 108 [e.t] (· = .lit (.int .i64 (bit1 e.kd : Nat))) := by
  obtain ⟨k, n, t, ns, ys, l, rs, p⟩ := e
  show AF _ _ _ (· = .lit (.int .i64 ((bit1 k : Nat) : Int)))
  refine af_enter tok Try.func108 Try.ntmps108 Try.results108 rfl (by kernel_rfl) rfl rfl fun F hX => ?_
  cases d0 : decide (k = 20)
  rotate_left
  · have hb : bit1 k = 1 := by
      have e0 := of_decide_eq_true d0
      subst e0; rfl
    repeat (first | refine gG ?_ | refine zBf ?_)
    first | refine zR ?_ | refine zQ ?_
    rw [hb]; rfl
  cases d1 : decide (k = 15)
  rotate_left
  · have hb : bit1 k = 2 := by
      have e1 := of_decide_eq_true d1
      subst e1; rfl
    repeat (first | refine gG ?_ | refine zBf ?_)
    first | refine zR ?_ | refine zQ ?_
    rw [hb]; rfl
  cases d2 : decide (k = 14)
  rotate_left
  · have hb : bit1 k = 4 := by
      have e2 := of_decide_eq_true d2
      subst e2; rfl
    repeat (first | refine gG ?_ | refine zBf ?_)
    first | refine zR ?_ | refine zQ ?_
    rw [hb]; rfl
  cases d3 : decide (k = 18)
  rotate_left
  · have hb : bit1 k = 8 := by
      have e3 := of_decide_eq_true d3
      subst e3; rfl
    repeat (first | refine gG ?_ | refine zBf ?_)
    first | refine zR ?_ | refine zQ ?_
    rw [hb]; rfl
  cases d4 : decide (k = 19)
  rotate_left
  · have hb : bit1 k = 16 := by
      have e4 := of_decide_eq_true d4
      subst e4; rfl
    repeat (first | refine gG ?_ | refine zBf ?_)
    first | refine zR ?_ | refine zQ ?_
    rw [hb]; rfl
  cases d5 : decide (k = 24)
  rotate_left
  · have hb : bit1 k = 32 := by
      have e5 := of_decide_eq_true d5
      subst e5; rfl
    repeat (first | refine gG ?_ | refine zBf ?_)
    first | refine zR ?_ | refine zQ ?_
    rw [hb]; rfl
  cases d6 : decide (k = 25)
  rotate_left
  · have hb : bit1 k = 32 := by
      have e6 := of_decide_eq_true d6
      subst e6; rfl
    repeat (first | refine gG ?_ | refine zBf ?_)
    first | refine zR ?_ | refine zQ ?_
    rw [hb]; rfl
  cases d7 : decide (k = 21)
  rotate_left
  · have hb : bit1 k = 64 := by
      have e7 := of_decide_eq_true d7
      subst e7; rfl
    repeat (first | refine gG ?_ | refine zBf ?_)
    first | refine zR ?_ | refine zQ ?_
    rw [hb]; rfl
  cases d8 : decide (k = 22)
  rotate_left
  · have hb : bit1 k = 64 := by
      have e8 := of_decide_eq_true d8
      subst e8; rfl
    repeat (first | refine gG ?_ | refine zBf ?_)
    first | refine zR ?_ | refine zQ ?_
    rw [hb]; rfl
  cases d9 : decide (k = 23)
  rotate_left
  · have hb : bit1 k = 64 := by
      have e9 := of_decide_eq_true d9
      subst e9; rfl
    repeat (first | refine gG ?_ | refine zBf ?_)
    first | refine zR ?_ | refine zQ ?_
    rw [hb]; rfl
  have hb : bit1 k = 0 := by
    simp only [decide_eq_false_iff_not] at d0 d1 d2 d3 d4 d5 d6 d7 d8 d9
    simp only [bit1, d0, d1, d2, d3, d4, d5, d6, d7, d8, d9, if_false]
  repeat (first | refine gG ?_ | refine zBf ?_)
  first | refine zR ?_ | refine zQ ?_
  rw [hb]; rfl
theorem own_snoc (W : List Ex) {k : Nat} {a : Ex} (h : W[k]? = some a) : orL ((W.take (k + 1)).map fun x => bit1 x.kd) = orL ((W.take k).map fun x => bit1 x.kd) ||| bit1 a.kd := by
  obtain ⟨h1, rfl⟩ := List.getElem?_eq_some_iff.1 h
  rw [List.take_succ_eq_append_getElem h1, List.map_append, List.map_cons, List.map_nil, orL_snoc]
theorem own_lt (W : List Ex) : orL (W.map fun x => bit1 x.kd) < 128 := orL_lt _ fun a ha => by
  obtain ⟨x, _, rfl⟩ := List.mem_map.1 ha
  exact bit1_lt _
set_option maxRecDepth 100000 in
set_option maxHeartbeats 4000000 in
theorem own_af (e : Ex) (he : e.walk.length ≤ 1048576) : AF Try.prog 62 [e.t] (· = .lit (.int .i64 (e.own : Nat))) := by
  have hw := walk_af e he
  unfold Ex.own
  generalize e.walk = W at *
  obtain ⟨k0, n0, t0, ns0, ys0, l0, rs0, p0⟩ := e
  refine af_enter tok Try.func62 Try.ntmps62 Try.results62 rfl (by kernel_rfl) rfl rfl fun F hX => ?_
  repeat (first | refine gG ?_ | refine zN1 (fun hlen => ?_) | refine zN2 (fun hlen => ?_) | refine zAl (fun _ => ?_) | refine zBf ?_)
  refine zCall (hw) ?_
  rintro _ rfl
  clear hw
  repeat (first | refine gG ?_ | refine zN1 (fun hlen => ?_) | refine zN2 (fun hlen => ?_) | refine zAl (fun _ => ?_) | refine zBf ?_)
  refine x_loop [3, 5, 9, 10, 11, 12, 13, 14, 15, 16, 17] (fun k : Nat => [(9, .c (.lit (.int .i64 (k : Nat)))), (3, .c (.lit (.int .i64 (orL ((W.take k).map fun x => bit1 x.kd) : Nat))))]) (fun _ => []) (fun k => k ≤ W.length) (fun k => W.length - k) 0 (Nat.zero_le _) ⟨rfl, rfl, trivial⟩ rfl ?_
  rintro k hk
  repeat (first | refine gG ?_ | refine zN1 (fun hlen => ?_) | refine zN2 (fun hlen => ?_) | refine zAl (fun _ => ?_) | refine zBx (fun _ => ?_))
  refine x_cond rfl (fun h => ?_) (fun h => ?_)
  · have hk' : k < W.length := by simpa using h
    obtain ⟨a, ha⟩ := nth hk'
    have hat := Ex.at ha
    have hsn := own_snoc W ha
    have hlt := own_lt (W.take k)
    have hla := bit1_lt a.kd
    have hsg := single_af a
    clear h
    generalize orL ((W.take k).map fun x => bit1 x.kd) = o at *
    repeat (first | refine gG ?_ | refine zN1 (fun hlen => ?_) | refine zN2 (fun hlen => ?_) | refine zAl (fun _ => ?_) | refine zBx (fun _ => ?_))
    refine zIx (k) (hk') ?_
    repeat (first | refine gG ?_ | refine zN1 (fun hlen => ?_) | refine zN2 (fun hlen => ?_) | refine zAl (fun _ => ?_) | refine zBx (fun _ => ?_))
    refine zEl (hat) (Ex.ts_len _) ?_
    obtain ⟨ka, na, ta, nsa, ysa, la, rsa, qa⟩ := a
    repeat (first | refine gG ?_ | refine zN1 (fun hlen => ?_) | refine zN2 (fun hlen => ?_) | refine zAl (fun _ => ?_) | refine zBx (fun _ => ?_))
    refine zCall (hsg) ?_
    rintro _ rfl
    repeat (first | refine gG ?_ | refine zN1 (fun hlen => ?_) | refine zN2 (fun hlen => ?_) | refine zAl (fun _ => ?_) | refine zBx (fun _ => ?_))
    refine zOrN ?_
    repeat (first | refine gG ?_ | refine zN1 (fun hlen => ?_) | refine zN2 (fun hlen => ?_) | refine zAl (fun _ => ?_) | refine zBx (fun _ => ?_))
    exact ⟨k + 1, hk', by omega, x_wkd 0 ⟨rfl, congrArg (fun n : Nat => AV.c (.lit (.int .i64 (n : Int)))) hsn.symm, trivial⟩ rfl (by repeat (first | exact ag_refl | refine ag_upd rfl ?_ | refine ag_at rfl rfl ?_))⟩
  · have hk' : k = W.length := by
      have : ¬ k < W.length := by simpa using h
      omega
    subst hk'
    clear h
    rw [List.take_length]
    repeat (first | refine gG ?_ | refine zN1 (fun hlen => ?_) | refine zN2 (fun hlen => ?_) | refine zAl (fun _ => ?_) | refine zBx (fun _ => ?_))
    first | refine zR ?_ | refine zQ ?_
    rfl
end Go.Proofs.Ytllgibfmddihgaa
namespace Go.Proofs.Ytllgibfmddihgaa
open Go.RowKit
theorem mput_own (k : Int) : (mget k (mput 23 (.lit (.int .i64 64)) (mput 22 (.lit (.int .i64 64)) (mput 21 (.lit (.int .i64 64)) (mput 25 (.lit (.int .i64 32)) (mput 24 (.lit (.int .i64 32)) (mput 19 (.lit (.int .i64 16)) (mput 18 (.lit (.int .i64 8)) (mput 14 (.lit (.int .i64 4)) (mput 15 (.lit (.int .i64 2)) (mput (20 : Int) (.lit (.int .i64 1)) []))))))))))).getD (.lit (.int .i64 0)) = .lit (.int .i64 ((bit1 k : Nat) : Int)) := by
  simp only [mget_put, mget, bit1]
  by_cases h0 : k = 20
  · subst h0; rfl
  by_cases h1 : k = 15
  · subst h1; rfl
  by_cases h2 : k = 14
  · subst h2; rfl
  by_cases h3 : k = 18
  · subst h3; rfl
  by_cases h4 : k = 19
  · subst h4; rfl
  by_cases h5 : k = 24
  · subst h5; rfl
  by_cases h6 : k = 25
  · subst h6; rfl
  by_cases h7 : k = 21
  · subst h7; rfl
  by_cases h8 : k = 22
  · subst h8; rfl
  by_cases h9 : k = 23
  · subst h9; rfl
  simp only [h0, h1, h2, h3, h4, h5, h6, h7, h8, h9, if_false]
  rfl
section
variable {P : Program} {F : Frm} {L : Tab} {d : Option Tmp} {ty : TypeId} {pos : String} {aft : Array Edge} {g : Option (Nat × Bool)} {ρ : Operand → AV} {hp : List Blk} {K : AV → List Blk → Prop} {xT : TypeId} {x y z : Operand} {i b : Nat}
theorem zInx (kT eT : TypeId) {s : Int} {l l' : List (Int × T)} {t : T} {hp' : List Blk} (hl : mput s t l = l') (h : K (.c (.lit undef)) hp') (hu : isMap P xT = some (kT, eT) := by kernel_rfl) (hk : P.underlying kT = some (.int .i64) := by kernel_rfl) (hx : ρ x = .own i (.map (some b)) := by exact rfl) (hi : hp[i]? = some (.mp b (mkeys (Value.int .i64) l)) := by exact rfl) (hy : ρ y = .c (.lit (.int .i64 s)) := by exact rfl) (hv : ρ z = .c t := by exact rfl) (hf : evl (hp.set i (.mp b (mkeys (Value.int .i64) l'))) = some hp' := by exact rfl) :
    LO P F ⟨d, .insert xT x y z, ty, pos, aft, g⟩ ρ hp K := by
  subst hl
  exact zIni kT eT h hu hk hx hi hy hv hf
end
set_option maxRecDepth 100000 in
set_option maxHeartbeats 4000000 in
theorem ownOf_af (e : Ex) (he : e.walk.length ≤ 1048576) : AF Try.prog 63 [e.t] (· = .lit (.int .i64 (e.own : Nat))) := by
  have hw := all_af e he
  unfold Ex.own
  generalize e.walk = W at *
  obtain ⟨m1, e1⟩ : ∃ m, mput (20 : Int) (.lit (.int .i64 1)) [] = m := ⟨_, rfl⟩
  obtain ⟨m2, e2⟩ : ∃ m, mput (15 : Int) (.lit (.int .i64 2)) m1 = m := ⟨_, rfl⟩
  obtain ⟨m3, e3⟩ : ∃ m, mput (14 : Int) (.lit (.int .i64 4)) m2 = m := ⟨_, rfl⟩
  obtain ⟨m4, e4⟩ : ∃ m, mput (18 : Int) (.lit (.int .i64 8)) m3 = m := ⟨_, rfl⟩
  obtain ⟨m5, e5⟩ : ∃ m, mput (19 : Int) (.lit (.int .i64 16)) m4 = m := ⟨_, rfl⟩
  obtain ⟨m6, e6⟩ : ∃ m, mput (24 : Int) (.lit (.int .i64 32)) m5 = m := ⟨_, rfl⟩
  obtain ⟨m7, e7⟩ : ∃ m, mput (25 : Int) (.lit (.int .i64 32)) m6 = m := ⟨_, rfl⟩
  obtain ⟨m8, e8⟩ : ∃ m, mput (21 : Int) (.lit (.int .i64 64)) m7 = m := ⟨_, rfl⟩
  obtain ⟨m9, e9⟩ : ∃ m, mput (22 : Int) (.lit (.int .i64 64)) m8 = m := ⟨_, rfl⟩
  obtain ⟨m10, e10⟩ : ∃ m, mput (23 : Int) (.lit (.int .i64 64)) m9 = m := ⟨_, rfl⟩
  have hmps : ∀ k : Int, (mget k m10).getD (.lit (.int .i64 0)) = .lit (.int .i64 ((bit1 k : Nat) : Int)) := fun k => by
    rw [← e10, ← e9, ← e8, ← e7, ← e6, ← e5, ← e4, ← e3, ← e2, ← e1]
    exact mput_own k
  obtain ⟨k0, n0, t0, ns0, ys0, l0, rs0, p0⟩ := e
  refine af_enter tok Try.func63 Try.ntmps63 Try.results63 rfl (by kernel_rfl) rfl rfl fun F hX => ?_
  repeat (first | refine gG ?_ | refine zN1 (fun hlen => ?_) | refine zN2 (fun hlen => ?_) | refine zAl (fun _ => ?_) | refine zBf ?_)
  refine zCall (hw) ?_
  rintro _ rfl
  clear hw
  repeat (first | refine gG ?_ | refine zN1 (fun hlen => ?_) | refine zN2 (fun hlen => ?_) | refine zAl (fun _ => ?_) | refine zBf ?_)
  refine x_loop [3, 5, 9, 10, 11, 12, 13, 14, 15, 16, 17, 18, 19, 20] (fun k : Nat => [(9, .c (.lit (.int .i64 (k : Nat)))), (3, .c (.lit (.int .i64 (orL ((W.take k).map fun x => bit1 x.kd) : Nat))))]) (fun _ => []) (fun k => k ≤ W.length) (fun k => W.length - k) 0 (Nat.zero_le _) ⟨rfl, rfl, trivial⟩ rfl ?_
  rintro k hk
  repeat (first | refine gG ?_ | refine zN1 (fun hlen => ?_) | refine zN2 (fun hlen => ?_) | refine zAl (fun _ => ?_) | refine zBx (fun _ => ?_))
  refine x_cond rfl (fun h => ?_) (fun h => ?_)
  · have hk' : k < W.length := by simpa using h
    obtain ⟨a, ha⟩ := nth hk'
    have hat := Ex.at ha
    have hsn := own_snoc W ha
    have hlt := own_lt (W.take k)
    have hla := bit1_lt a.kd
    have hmp := hmps a.kd
    clear h
    generalize orL ((W.take k).map fun x => bit1 x.kd) = o at *
    repeat (first | refine gG ?_ | refine zN1 (fun hlen => ?_) | refine zN2 (fun hlen => ?_) | refine zAl (fun _ => ?_) | refine zBx (fun _ => ?_))
    refine zIx (k) (hk') ?_
    repeat (first | refine gG ?_ | refine zN1 (fun hlen => ?_) | refine zN2 (fun hlen => ?_) | refine zAl (fun _ => ?_) | refine zBx (fun _ => ?_))
    refine zEl (hat) (Ex.ts_len _) ?_
    obtain ⟨ka, na, ta, nsa, ysa, la, rsa, qa⟩ := a
    repeat (first | refine gG ?_ | refine zN1 (fun hlen => ?_) | refine zN2 (fun hlen => ?_) | refine zAl (fun _ => ?_) | refine zBx (fun _ => ?_))
    refine zMm (fun bm => ?_)
    repeat (first | refine gG ?_ | refine zN1 (fun hlen => ?_) | refine zN2 (fun hlen => ?_) | refine zAl (fun _ => ?_) | refine zBx (fun _ => ?_))
    refine zInx 3 3 e1 ?_
    repeat (first | refine gG ?_ | refine zN1 (fun hlen => ?_) | refine zN2 (fun hlen => ?_) | refine zAl (fun _ => ?_) | refine zBx (fun _ => ?_))
    refine zInx 3 3 e2 ?_
    repeat (first | refine gG ?_ | refine zN1 (fun hlen => ?_) | refine zN2 (fun hlen => ?_) | refine zAl (fun _ => ?_) | refine zBx (fun _ => ?_))
    refine zInx 3 3 e3 ?_
    repeat (first | refine gG ?_ | refine zN1 (fun hlen => ?_) | refine zN2 (fun hlen => ?_) | refine zAl (fun _ => ?_) | refine zBx (fun _ => ?_))
    refine zInx 3 3 e4 ?_
    repeat (first | refine gG ?_ | refine zN1 (fun hlen => ?_) | refine zN2 (fun hlen => ?_) | refine zAl (fun _ => ?_) | refine zBx (fun _ => ?_))
    refine zInx 3 3 e5 ?_
    repeat (first | refine gG ?_ | refine zN1 (fun hlen => ?_) | refine zN2 (fun hlen => ?_) | refine zAl (fun _ => ?_) | refine zBx (fun _ => ?_))
    refine zInx 3 3 e6 ?_
    repeat (first | refine gG ?_ | refine zN1 (fun hlen => ?_) | refine zN2 (fun hlen => ?_) | refine zAl (fun _ => ?_) | refine zBx (fun _ => ?_))
    refine zInx 3 3 e7 ?_
    repeat (first | refine gG ?_ | refine zN1 (fun hlen => ?_) | refine zN2 (fun hlen => ?_) | refine zAl (fun _ => ?_) | refine zBx (fun _ => ?_))
    refine zInx 3 3 e8 ?_
    repeat (first | refine gG ?_ | refine zN1 (fun hlen => ?_) | refine zN2 (fun hlen => ?_) | refine zAl (fun _ => ?_) | refine zBx (fun _ => ?_))
    refine zInx 3 3 e9 ?_
    repeat (first | refine gG ?_ | refine zN1 (fun hlen => ?_) | refine zN2 (fun hlen => ?_) | refine zAl (fun _ => ?_) | refine zBx (fun _ => ?_))
    refine zInx 3 3 e10 ?_
    repeat (first | refine gG ?_ | refine zN1 (fun hlen => ?_) | refine zN2 (fun hlen => ?_) | refine zAl (fun _ => ?_) | refine zBx (fun _ => ?_))
    refine zLki 3 3 hmp ?_
    repeat (first | refine gG ?_ | refine zN1 (fun hlen => ?_) | refine zN2 (fun hlen => ?_) | refine zAl (fun _ => ?_) | refine zBx (fun _ => ?_))
    refine zOrN ?_
    repeat (first | refine gG ?_ | refine zN1 (fun hlen => ?_) | refine zN2 (fun hlen => ?_) | refine zAl (fun _ => ?_) | refine zBx (fun _ => ?_))
    exact ⟨k + 1, hk', by omega, x_wkd 0 ⟨rfl, congrArg (fun n : Nat => AV.c (.lit (.int .i64 (n : Int)))) hsn.symm, trivial⟩ rfl (by repeat (first | exact ag_refl | refine ag_upd rfl ?_ | refine ag_at rfl rfl ?_))⟩
  · have hk' : k = W.length := by
      have : ¬ k < W.length := by simpa using h
      omega
    subst hk'
    clear h
    rw [List.take_length]
    repeat (first | refine gG ?_ | refine zN1 (fun hlen => ?_) | refine zN2 (fun hlen => ?_) | refine zAl (fun _ => ?_) | refine zBx (fun _ => ?_))
    first | refine zR ?_ | refine zQ ?_
    rfl
end Go.Proofs.Ytllgibfmddihgaa
