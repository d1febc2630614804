/-
  Texts of this proof, part 11: Ab38.
-/
import Derived.Test.YtllgibfmddihgaaDoorQSchemeSays10
import Derived.Laws.Strings2
import Derived.Lib.AppendStr
import Derived.Lib.MinMax
namespace Go.Proofs.YtllgibfmddihgaaDoor
open Go.RowKit
inductive Pt where
  | fin (r : List Nat)
  | fork (p : List Nat) (i : Nat) (a : Pt) (j : Nat) (b : Pt)
  | fork3 (p : List Nat) (i : Nat) (a : Pt) (j : Nat) (b : Pt) (k : Nat) (c : Pt)
  | fork4 (p : List Nat) (i : Nat) (a : Pt) (j : Nat) (b : Pt) (k : Nat) (c : Pt) (m : Nat) (d : Pt)
def Pt.n : Pt → Nat
  | .fin r => r.length
  | .fork p _ a _ _ => a.n + 1 + p.length
  | .fork3 p _ a _ _ _ _ => a.n + 1 + p.length
  | .fork4 p _ a _ _ _ _ _ _ => a.n + 1 + p.length
section
variable (P : Program) (F : Frm) (md : Region.Mode) (ops : Array Oper) (N : Nat) (cls : Nat → Nat)
def ptB : Pt → Array Bool → Bool
  | .fin r, listed => ordB md ops cls r listed
  | .fork p i a j b, listed => ordP md ops cls p listed && decide (Region.ready md ops (lst p listed) = [i, j]) && ptB a ((lst p listed).setIfInBounds i true) && ptB b ((lst p listed).setIfInBounds j true) && Nat.beq a.n b.n
  | .fork3 p i a j b k c, listed => ordP md ops cls p listed && decide (Region.ready md ops (lst p listed) = [i, j, k]) && ptB a ((lst p listed).setIfInBounds i true) && ptB b ((lst p listed).setIfInBounds j true) && ptB c ((lst p listed).setIfInBounds k true) && (Nat.beq a.n b.n && Nat.beq a.n c.n)
  | .fork4 p i a j b k c m e, listed => ordP md ops cls p listed && decide (Region.ready md ops (lst p listed) = [i, j, k, m]) && ptB a ((lst p listed).setIfInBounds i true) && ptB b ((lst p listed).setIfInBounds j true) && ptB c ((lst p listed).setIfInBounds k true) && ptB e ((lst p listed).setIfInBounds m true) && (Nat.beq a.n b.n && (Nat.beq a.n c.n && Nat.beq a.n e.n))
def WTt (Kf : (Nat → AV) → List Blk → Prop) : Pt → (Nat → AV) → List Blk → Prop
  | .fin r, τ, hp => WO P F ops N cls Kf r τ hp
  | .fork p i a j b, τ, hp => WO P F ops N cls (fun τ hp => WO P F ops N cls (WTt Kf a) [i] τ hp ∧ WO P F ops N cls (WTt Kf b) [j] τ hp) p τ hp
  | .fork3 p i a j b k c, τ, hp => WO P F ops N cls (fun τ hp => WO P F ops N cls (WTt Kf a) [i] τ hp ∧ WO P F ops N cls (WTt Kf b) [j] τ hp ∧ WO P F ops N cls (WTt Kf c) [k] τ hp) p τ hp
  | .fork4 p i a j b k c m e, τ, hp => WO P F ops N cls (fun τ hp => WO P F ops N cls (WTt Kf a) [i] τ hp ∧ WO P F ops N cls (WTt Kf b) [j] τ hp ∧ WO P F ops N cls (WTt Kf c) [k] τ hp ∧ WO P F ops N cls (WTt Kf e) [m] τ hp) p τ hp
end
section
variable {P : Program} {F : Frm} {md : Region.Mode} {ops : Array Oper} {N : Nat} {cls : Nat → Nat} {Kf : (Nat → AV) → List Blk → Prop} {τ : Nat → AV} {hp : List Blk}
theorem wtt_fin {r : List Nat} (h : WO P F ops N cls Kf r τ hp) : WTt P F ops N cls Kf (.fin r) τ hp := h
theorem wtt_fork {p : List Nat} {i j : Nat} {a b : Pt} (h : WO P F ops N cls (fun τ hp => WO P F ops N cls (WTt P F ops N cls Kf a) [i] τ hp ∧ WO P F ops N cls (WTt P F ops N cls Kf b) [j] τ hp) p τ hp) : WTt P F ops N cls Kf (.fork p i a j b) τ hp := h
theorem wtt_fork3 {p : List Nat} {i j k : Nat} {a b c : Pt} (h : WO P F ops N cls (fun τ hp => WO P F ops N cls (WTt P F ops N cls Kf a) [i] τ hp ∧ WO P F ops N cls (WTt P F ops N cls Kf b) [j] τ hp ∧ WO P F ops N cls (WTt P F ops N cls Kf c) [k] τ hp) p τ hp) : WTt P F ops N cls Kf (.fork3 p i a j b k c) τ hp := h
theorem wtt_fork4 {p : List Nat} {i j k m : Nat} {a b c e : Pt} (h : WO P F ops N cls (fun τ hp => WO P F ops N cls (WTt P F ops N cls Kf a) [i] τ hp ∧ WO P F ops N cls (WTt P F ops N cls Kf b) [j] τ hp ∧ WO P F ops N cls (WTt P F ops N cls Kf c) [k] τ hp ∧ WO P F ops N cls (WTt P F ops N cls Kf e) [m] τ hp) p τ hp) : WTt P F ops N cls Kf (.fork4 p i a j b k c m e) τ hp := h
theorem anyA_pt : ∀ (t : Pt) (listed : Array Bool) (τ : Nat → AV) (hp : List Blk), ClosedL md ops listed → ptB md ops cls t listed = true → WTt P F ops N cls Kf t τ hp → AnyA P F md ops N cls Kf t.n listed τ hp
  | .fin r, listed, τ, hp, hc, hB, h => anyA_ord r listed τ hp hc hB h
  | .fork p i a j b, listed, τ, hp, hc, hB, h => by
    simp only [ptB, Bool.and_eq_true] at hB
    obtain ⟨⟨⟨⟨b1, b2⟩, b3⟩, b4⟩, b5⟩ := hB
    have hcl := ordP_closed p _ hc b1
    have hr := of_decide_eq_true b2
    refine anyA_pre (a.n + 1) p listed τ hp hc b1 (WO.mono p (fun τ' hp' h' => ?_) h)
    refine ⟨fun h0 => (by rw [hr] at h0; cases h0), fun k hk => ?_⟩
    have hk' := hk
    rw [hr] at hk'
    simp only [List.mem_cons, List.not_mem_nil, or_false] at hk'
    rcases hk' with rfl | rfl
    · exact opA_mono (fun τ' hp' h' => anyA_pt a _ τ' hp' (hcl.set hk) b3 h') h'.1
    · rw [Nat.eq_of_beq_eq_true b5]; exact opA_mono (fun τ' hp' h' => anyA_pt b _ τ' hp' (hcl.set hk) b4 h') h'.2
  | .fork3 p i a j b q c, listed, τ, hp, hc, hB, h => by
    simp only [ptB, Bool.and_eq_true] at hB
    obtain ⟨⟨⟨⟨⟨b1, b2⟩, b3⟩, b4⟩, b6⟩, b5, b7⟩ := hB
    have hcl := ordP_closed p _ hc b1
    have hr := of_decide_eq_true b2
    refine anyA_pre (a.n + 1) p listed τ hp hc b1 (WO.mono p (fun τ' hp' h' => ?_) h)
    refine ⟨fun h0 => (by rw [hr] at h0; cases h0), fun k hk => ?_⟩
    have hk' := hk
    rw [hr] at hk'
    simp only [List.mem_cons, List.not_mem_nil, or_false] at hk'
    rcases hk' with rfl | rfl | rfl
    · exact opA_mono (fun τ' hp' h' => anyA_pt a _ τ' hp' (hcl.set hk) b3 h') h'.1
    · rw [Nat.eq_of_beq_eq_true b5]; exact opA_mono (fun τ' hp' h' => anyA_pt b _ τ' hp' (hcl.set hk) b4 h') h'.2.1
    · rw [Nat.eq_of_beq_eq_true b7]; exact opA_mono (fun τ' hp' h' => anyA_pt c _ τ' hp' (hcl.set hk) b6 h') h'.2.2
  | .fork4 p i a j b q c m e, listed, τ, hp, hc, hB, h => by
    simp only [ptB, Bool.and_eq_true] at hB
    obtain ⟨⟨⟨⟨⟨⟨b1, b2⟩, b3⟩, b4⟩, b6⟩, b8⟩, b5, b7, b9⟩ := hB
    have hcl := ordP_closed p _ hc b1
    have hr := of_decide_eq_true b2
    refine anyA_pre (a.n + 1) p listed τ hp hc b1 (WO.mono p (fun τ' hp' h' => ?_) h)
    refine ⟨fun h0 => (by rw [hr] at h0; cases h0), fun k hk => ?_⟩
    have hk' := hk
    rw [hr] at hk'
    simp only [List.mem_cons, List.not_mem_nil, or_false] at hk'
    rcases hk' with rfl | rfl | rfl | rfl
    · exact opA_mono (fun τ' hp' h' => anyA_pt a _ τ' hp' (hcl.set hk) b3 h') h'.1
    · rw [Nat.eq_of_beq_eq_true b5]; exact opA_mono (fun τ' hp' h' => anyA_pt b _ τ' hp' (hcl.set hk) b4 h') h'.2.1
    · rw [Nat.eq_of_beq_eq_true b7]; exact opA_mono (fun τ' hp' h' => anyA_pt c _ τ' hp' (hcl.set hk) b6 h') h'.2.2.1
    · rw [Nat.eq_of_beq_eq_true b9]; exact opA_mono (fun τ' hp' h' => anyA_pt e _ τ' hp' (hcl.set hk) b8 h') h'.2.2.2
end
section
variable {P : Program} {F : Frm} {τ : Nat → AV} {hp : List Blk} {N : Nat} {Q : Exit → AS → Prop} {id : Nat} {l : List Oper}
theorem ac_drawT3 (c : List Nat) (t : Pt) (hm : P.follows .mixedOrders = true) (hB : (ptB .any l.toArray (clsOf c) t (Array.replicate l.toArray.size false) && Nat.beq t.n l.length) = true)
    (h : WTt P F l.toArray N (clsOf c) (fun τ' hp' => Q .normal ⟨τ', hp', N⟩) t τ hp) : AC P F (.region id l.toArray true) Q ⟨τ, hp, N⟩ := by
  refine ⟨fun M a w hr => ?_⟩
  simp only [Bool.and_eq_true] at hB
  have hlen := Nat.eq_of_beq_eq_true hB.2
  have hrd : Rep F M ⟨τ, hp, N⟩ a { w with drawn := w.drawn + 1 } := ⟨hr.tmps, hr.size, hr.defers, hr.heap.drew⟩
  have hcl : ClosedL .any l.toArray (Array.replicate l.toArray.size false) := fun j oj _ hl => by rw [getD_replicate_false] at hl; cases hl
  refine wp_region_any hm ?_
  have H := wpAny_of_A (Q := fun e a' w' => ∃ M' σ', Q e σ' ∧ Rep F M' σ' a' w') (fun M τ hp a w hk hr => ⟨M, _, hk, hr⟩) _ _ _ _ _ _ _ hrd (anyA_pt t _ τ hp hcl hB.1 h)
  rwa [hlen, show l.length = l.toArray.size by simp] at H
end
section
variable {P : Program} {F : Frm} {τ : Nat → AV} {hp : List Blk} {N : Nat} {Q : Exit → AS → Prop}
/-- where a row of the call's own has elements, it has an address -/
theorem x_row {c : Go.Code} (i : Nat) {v : Value} {e : TypeId} {sz n : Nat} {cs : List T} (hi : hp[i]? = some (.row v e sz n cs)) (hn : 0 < n) (h : (∃ ad m, v = .slice (some ad) n m) → AC P F c Q ⟨τ, hp, N⟩) : AC P F c Q ⟨τ, hp, N⟩ := by
  refine ⟨fun M a w hr => (h ?_).out M a w hr⟩
  obtain ⟨xs, ho, _⟩ := hr.heap.at_ i _ hi
  obtain ⟨A, c, rfl, _⟩ := ownO_shape ho
  obtain ⟨ad, rfl⟩ := ho.some_ (by omega)
  exact ⟨ad, c, rfl⟩
end
section
variable {P : Program} {F : Frm} {L : Tab} {d : Option Tmp} {ty : TypeId} {pos : String} {aft : Array Edge} {g : Option (Nat × Bool)} {ρ : Operand → AV} {hp : List Blk} {K : AV → List Blk → Prop}
/-- an index into a row of the call's own that has an address: no block is looked at -/
theorem zIxp {t el : TypeId} {ti te : TI} {x y : Operand} {i n sz : Nat} {v : Value} {k : IntKind} {z : Int} (j : Nat) (hv : ∃ ad m, v = .slice (some ad) n m) (hj : j < n) (h : K (.eptr i v (j * sz)) hp) (hz : z = (j : Int) := by exact rfl) (hL : TabOk P L := by exact tok) (hx : ρ x = .own i v := by exact rfl) (hy : ρ y = .c (.lit (.int k z)) := by exact rfl) (ht : L.look t = some ti := by exact rfl) (hd : ti.d = .slice el := by exact rfl) (hte : L.look el = some te := by exact rfl) (hsz : te.size = sz := by exact rfl) : LO P F ⟨d, .indexAddr t x y, ty, pos, aft, g⟩ ρ hp K := by
  refine LO.same (fun M e w he hh => ?_) h
  have h1 := he x (by first | (simp [Op.operands]; done) | simp [Op.operands, Call.operands])
  rw [hx] at h1
  simp only [RA] at h1
  obtain ⟨ad, c, rfl⟩ := hv
  have h2 := he y (by first | (simp [Op.operands]; done) | simp [Op.operands, Call.operands])
  rw [hy] at h2
  simp only [RA, RT] at h2
  refine ⟨.pointer (some (Addr.add ad (j * sz))), ?_, by simp only [RA]; exact ⟨_, _, _, rfl, rfl⟩⟩
  subst hz
  simp [execOp, Instr.indexAt, h1.1, h2, asIntOf, run_underlying (hL.slice ht hd), hL.sizeOf hte, hsz, hj]
end
end Go.Proofs.YtllgibfmddihgaaDoor
