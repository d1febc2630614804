/-
  Abstract states: a region that draws among several orders (a tree of orders); functions with a receiver; parts of rows of bytes.
-/
import Derived.Test.YthgackidonocpaaAb23
namespace Go.Proofs.Ythgackidonocpaa
open Go.RowKit

inductive Pl where
  | fin (r : List Nat)
  | fork (p : List Nat) (i : Nat) (a : Pl) (j : Nat) (b : Pl)
def Pl.n : Pl → Nat
  | .fin r => r.length
  | .fork p _ a _ _ => a.n + 1 + p.length
section
variable (P : Program) (F : Frm) (md : Region.Mode) (ops : Array Oper) (N : Nat) (cls : Nat → Nat)
def plB : Pl → Array Bool → Bool
  | .fin r, listed => ordB md ops cls r listed
  | .fork p i a j b, listed => ordP md ops cls p listed && decide (Region.ready md ops (lst p listed) = [i, j]) && plB a ((lst p listed).setIfInBounds i true) && plB b ((lst p listed).setIfInBounds j true) && Nat.beq a.n b.n
def WT (Kf : (Nat → AV) → List Blk → Prop) : Pl → (Nat → AV) → List Blk → Prop
  | .fin r, τ, hp => WO P F ops N cls Kf r τ hp
  | .fork p i a j b, τ, hp => WO P F ops N cls (fun τ hp => WO P F ops N cls (WT Kf a) [i] τ hp ∧ WO P F ops N cls (WT Kf b) [j] τ hp) p τ hp
end
section
variable {P : Program} {F : Frm} {md : Region.Mode} {ops : Array Oper} {N : Nat} {cls : Nat → Nat} {Kf : (Nat → AV) → List Blk → Prop} {τ : Nat → AV} {hp : List Blk}
theorem wt_fin {r : List Nat} (h : WO P F ops N cls Kf r τ hp) : WT P F ops N cls Kf (.fin r) τ hp := h
theorem wt_fork {p : List Nat} {i j : Nat} {a b : Pl} (h : WO P F ops N cls (fun τ hp => WO P F ops N cls (WT P F ops N cls Kf a) [i] τ hp ∧ WO P F ops N cls (WT P F ops N cls Kf b) [j] τ hp) p τ hp) : WT P F ops N cls Kf (.fork p i a j b) τ hp := h
theorem anyA_pl : ∀ (t : Pl) (listed : Array Bool) (τ : Nat → AV) (hp : List Blk), ClosedL md ops listed → plB md ops cls t listed = true → WT P F ops N cls Kf t τ hp → AnyA P F md ops N cls Kf t.n listed τ hp
  | .fin r, listed, τ, hp, hc, hB, h => anyA_ord r listed τ hp hc hB h
  | .fork p i a j b, listed, τ, hp, hc, hB, h => by
    simp only [plB, Bool.and_eq_true] at hB
    obtain ⟨⟨⟨⟨b1, b2⟩, b3⟩, b4⟩, b5⟩ := hB
    have hcl := ordP_closed p _ hc b1
    have hr := of_decide_eq_true b2
    refine anyA_pre (a.n + 1) p listed τ hp hc b1 (WO.mono p (fun τ' hp' h' => ?_) h)
    refine ⟨fun h0 => (by rw [hr] at h0; cases h0), fun k hk => ?_⟩
    have hk' := hk
    rw [hr] at hk'
    simp only [List.mem_cons, List.not_mem_nil, or_false] at hk'
    rcases hk' with rfl | rfl
    · exact opA_mono (fun τ' hp' h' => anyA_pl a _ τ' hp' (hcl.set hk) b3 h') h'.1
    · rw [Nat.eq_of_beq_eq_true b5]; exact opA_mono (fun τ' hp' h' => anyA_pl b _ τ' hp' (hcl.set hk) b4 h') h'.2
end
section
variable {P : Program} {F : Frm} {τ : Nat → AV} {hp : List Blk} {N : Nat} {Q : Exit → AS → Prop} {id : Nat} {l : List Oper}
theorem ac_drawT (c : List Nat) (t : Pl) (hm : P.follows .mixedOrders = true) (hB : (plB .any l.toArray (clsOf c) t (Array.replicate l.toArray.size false) && Nat.beq t.n l.length) = true)
    (h : WT P F l.toArray N (clsOf c) (fun τ' hp' => Q .normal ⟨τ', hp', N⟩) t τ hp) : AC P F (.region id l.toArray true) Q ⟨τ, hp, N⟩ := by
  refine ⟨fun M a w hr => ?_⟩
  simp only [Bool.and_eq_true] at hB
  have hlen := Nat.eq_of_beq_eq_true hB.2
  have hrd : Rep F M ⟨τ, hp, N⟩ a { w with drawn := w.drawn + 1 } := ⟨hr.tmps, hr.size, hr.defers, hr.heap.drew⟩
  have hcl : ClosedL .any l.toArray (Array.replicate l.toArray.size false) := fun j oj _ hl => by rw [getD_replicate_false] at hl; cases hl
  refine wp_region_any hm ?_
  have H := wpAny_of_A (Q := fun e a' w' => ∃ M' σ', Q e σ' ∧ Rep F M' σ' a' w') (fun M τ hp a w hk hr => ⟨M, _, hk, hr⟩) _ _ _ _ _ _ _ hrd (anyA_pl t _ τ hp hcl hB.1 h)
  rwa [hlen, show l.length = l.toArray.size by simp] at H
end

/-! ### functions with a receiver -/
def bfn (f : FuncId) (b off : Nat) : Value := .func (.func f) #[.pointer (some ⟨b, off, none⟩)] #[]
section
variable {P : Program} {F : Frm} {L : Tab} {d : Option Tmp} {ty : TypeId} {pos : String} {aft : Array Edge} {g : Option (Nat × Bool)} {ρ : Operand → AV} {hp : List Blk} {K : AV → List Blk → Prop}
theorem zMf {f : FuncId} {x : Operand} {i b off : Nat} (h : K (.own 0 (bfn f b off)) hp) (hx : ρ x = .ptr i b off := by exact rfl) : LO P F ⟨d, .makeFunc (.func f) #[x] #[], ty, pos, aft, g⟩ ρ hp K := by
  refine LO.same (fun M e w he hh => ?_) h
  have h1 := he x (by simp [Op.operands])
  rw [hx] at h1
  simp only [RA] at h1
  refine ⟨bfn f b off, by simp [execOp, Instr.makeFunc, h1, bfn], ?_⟩
  simp only [RA]
  exact ⟨trivial, rfl⟩
theorem run_callb {f : FuncId} (hf : Enters P f) {e : Operand → Value} {y : Operand} {p : Value} (hy : e y = .func (.func f) #[p] #[]) (xs : List Operand) (ats : Array TypeId) (w : World) :
    (execOp e ⟨d, .call { callee := .value y, args := xs.toArray, argTypes := ats }, ty, pos, aft, g⟩).run P w = .ok (.enter f (p :: xs.map e).toArray) w := by
  obtain ⟨fn, h1, h2, h3⟩ := hf
  simp [execOp, resolve, hy, Deferred.ofValue, invoke, callFunc, h1]
  rw [if_neg (by simpa using h2), if_neg (fun e => by rw [e] at h3; cases h3)]
theorem zCallGb {f : FuncId} {y : Operand} {xs : List Operand} {ats : Array TypeId} {as : List AV} {hs : List Blk} {R : AV → List Blk → Prop} {j b off : Nat} (sel : List Nat) (hc : AG P f as hs R)
    (h : ∀ r hs2, R r hs2 → ∃ r' hp', Re r r' ∧ Nat.ble sel.length hs2.length = true ∧ evl (putB hp sel hs2) = some hp' ∧ K r' hp') (hy : ρ y = .own j (bfn f b off) := by exact rfl)
    (hx : Res (.ptr 0 b off :: xs.map ρ) as := by repeat (first | exact res_nil | apply res_cons | exact re_own | exact re_ptr | exact re_refl | apply re_cls | exact rzs_nil | apply rzs_cons | exact rz_c | exact rz_nil rfl | apply rz_agg | apply rz_fn | apply rz_tup)) (hsl : selB hp sel = some hs := by exact rfl) (hf : freshB sel = true := by exact rfl) :
    LO P F ⟨d, .call { callee := .value y, args := xs.toArray, argTypes := ats }, ty, pos, aft, g⟩ ρ hp K := by
  refine ⟨fun M e w he hh => ?_⟩
  obtain ⟨hE, hcall⟩ := hc
  have h1 := he y (by simp [Op.operands, Call.operands])
  rw [hy] at h1
  simp only [RA] at h1
  rw [run_callb hE h1.1]
  have hav : RAs M (.ptr 0 b off :: xs.map ρ) (.pointer (some ⟨b, off, none⟩) :: xs.map e) := by
    simp only [RAs]
    exact ⟨_, _, rfl, by simp only [RA], ev_all xs (fun x hx => he x (by simp [Op.operands, Call.operands, hx]))⟩
  refine (hcall (subF M hs w) M w _ (heap_sel hh hsl hf) (hx M _ hav)).mono ?_
  rintro e' w' ⟨v, r, hs2, M', rfl, hR, hM, hh2, hr⟩
  obtain ⟨r', hp', hre, hl, hev, hK⟩ := h r hs2 hR
  exact ⟨v, rfl, M', r', _, hK, hM.to (sub_may hh hsl), by rw [evl_eq hev]; exact heap_put hh hsl (Nat.le_of_ble_eq_true hl) hh2, hre M' v hr⟩
/-- parts of rows of bytes -/
theorem zPlb {t el : TypeId} {ti te : TI} {x y : Operand} {l : List UInt8} {k : IntKind} {z : Int} (m : Nat) (hm : m ≤ l.length) (hK : K (.c (bytRow (l.drop m))) hp) (hz : z = (m : Int) := by exact rfl) (hL : TabOk P L := by exact tok) (hx : ρ x = .c (bytRow l) := by exact rfl) (hy : ρ y = .c (.lit (.int k z)) := by exact rfl) (ht : L.look t = some ti := by exact rfl) (hd : ti.d = .slice el := by exact rfl) (hte : L.look el = some te := by exact rfl) (hsz : te.size = 1 := by exact rfl) :
    LO P F ⟨d, .slice t x (some y) none none, ty, pos, aft, g⟩ ρ hp K := by
  refine lo_part_lo hL m hm hx hy hz ht hd hte hsz ?_
  have h : (byts l).drop (m * 1) = byts (l.drop m) := by simp [byts, List.map_drop]
  rw [h]
  have h3 : (byts (l.drop m)).take (l.length - m) = byts (l.drop m) := List.take_of_length_le (by simp [byts_len])
  simpa [bytRow, h3] using hK
theorem zPhb {t el : TypeId} {ti te : TI} {x y : Operand} {l : List UInt8} {k : IntKind} {z : Int} (m : Nat) (hm : m ≤ l.length) (hK : K (.c (bytRow (l.take m))) hp) (hz : z = (m : Int) := by exact rfl) (hL : TabOk P L := by exact tok) (hx : ρ x = .c (bytRow l) := by exact rfl) (hy : ρ y = .c (.lit (.int k z)) := by exact rfl) (ht : L.look t = some ti := by exact rfl) (hd : ti.d = .slice el := by exact rfl) (hte : L.look el = some te := by exact rfl) (hsz : te.size = 1 := by exact rfl) :
    LO P F ⟨d, .slice t x none (some y) none, ty, pos, aft, g⟩ ρ hp K := by
  refine lo_part_hi hL m hm hx hy hz ht hd hte hsz ?_
  have h : (byts l).take (m * 1) = byts (l.take m) := by simp [byts, List.map_take]
  rw [h]
  have h2 : (l.take m).length = m := by simp; omega
  simpa [bytRow, h2, Nat.min_eq_left hm] using hK
end
theorem AG.re {P : Program} {f : FuncId} {as : List AV} {hs : List Blk} {R R' : AV → List Blk → Prop} (h : AG P f as hs R) (hi : ∀ r hs, R r hs → ∃ r', Re r r' ∧ R' r' hs) : AG P f as hs R' :=
  ⟨h.1, fun F M w vs hM hv => (h.2 F M w vs hM hv).mono fun _ _ ⟨v, r, hs', M', h1, h2, h3, h4, h5⟩ => let ⟨r', h6, h7⟩ := hi r hs' h2; ⟨v, r', hs', M', h1, h7, h3, h4, h6 M' v h5⟩⟩

end Go.Proofs.Ythgackidonocpaa
