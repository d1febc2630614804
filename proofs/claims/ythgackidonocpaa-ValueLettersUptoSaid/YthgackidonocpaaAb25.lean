/-
  Abstract states: a row of the call's own that a variable holds becomes memory that only is read.
-/
import Derived.Test.YthgackidonocpaaAb24
namespace Go.Proofs.Ythgackidonocpaa
open Go.RowKit

section
variable {F : Frm} {τ : Nat → AV} {hp : List Blk} {N : Nat}
theorem wk_fzc (i j : Nat) {q b : Nat} {v : Value} {e t : TypeId} {sz n : Nat} {ts : List T} {cs cs' : List AV} {hp' : List Blk} (hi : hp[i]? = some (.box b t cs)) (hj : cs[j]? = some (.own q v)) (hq : hp[q]? = some (.row v e sz n ts)) (hiq : Nat.beq i q = false) (hc : evl (cs.set j (.c (.row n sz ts))) = some cs') (hf : evl ((hp.set q .dead).set i (.box b t cs')) = some hp') : Wk F ⟨τ, hp, N⟩ ⟨τ, hp', N⟩ := by
  intro M a w hr
  have hne : i ≠ q := fun e => by rw [e, Nat.beq_refl] at hiq; cases hiq
  obtain ⟨h1, h2⟩ := heap_frz hr.heap hq
  have hi' : (hp.set q .dead)[i]? = some (.box b t cs) := by rw [List.getElem?_set_ne (Ne.symm hne)]; exact hi
  have hlt : i < (hp.set q .dead).length := (List.getElem?_eq_some_iff.1 hi').1
  have h3 : HeapOk F (frB M v.ownBlock w) ((hp.set q .dead).set i (.box b t cs')) w := by
    refine h1.step i rfl rfl rfl (Nat.le_refl _) (fun _ _ _ => rfl) (Ext.refl _ _) (fun p v h1 h2 => by rw [h2] at h1; cases h1) (fun m hm => by rw [List.getElem?_set_ne (Ne.symm hm)]) (fun x' hx' => ?_)
    rw [List.getElem?_set_self hlt] at hx'
    obtain rfl : Blk.box b t cs' = x' := by injection hx'
    obtain ⟨xs, g1, g2, g3⟩ := h1.at_ i _ hi'
    refine ⟨⟨xs, g1, ?_, g3⟩, fun b' hb' => .inl ⟨_, hi', hb'⟩⟩
    rw [evl_eq hc]
    obtain ⟨x, hx, hxr⟩ := g2.get hj
    simp only [RA] at hxr
    have hjl : j < xs.length := (List.getElem?_eq_some_iff.1 hx).1
    have hxj : xs[j] = x := by rw [List.getElem?_eq_getElem hjl] at hx; injection hx
    have : RAs (frB M v.ownBlock w) (cs.set j (.c (.row n sz ts))) (xs.set j x) := RAs.set j g2 (by simp only [RA]; rw [hxr.1]; exact h2)
    rwa [show xs.set j x = xs from by rw [← hxj]; exact List.set_getElem_self hjl] at this
  exact ⟨_, fun k => RA.mono (frB_sub _ _ _) _ _ (hr.tmps k), hr.size, hr.defers, by rw [evl_eq hf]; exact h3⟩
theorem x_fzc {P : Program} {Q : Exit → AS → Prop} {c : Code} (i j : Nat) {q b : Nat} {v : Value} {e t : TypeId} {sz n : Nat} {ts : List T} {cs cs' : List AV} {hp' : List Blk} (h : AC P F c Q ⟨τ, hp', N⟩) (hi : hp[i]? = some (.box b t cs) := by exact rfl) (hj : cs[j]? = some (.own q v) := by exact rfl) (hq : hp[q]? = some (.row v e sz n ts) := by exact rfl) (hiq : Nat.beq i q = false := by exact rfl) (hc : evl (cs.set j (.c (.row n sz ts))) = some cs' := by exact rfl) (hf : evl ((hp.set q .dead).set i (.box b t cs')) = some hp' := by exact rfl) : AC P F c Q ⟨τ, hp, N⟩ :=
  ac_wk (wk_fzc i j hi hj hq hiq hc hf) h
end

end Go.Proofs.Ythgackidonocpaa
