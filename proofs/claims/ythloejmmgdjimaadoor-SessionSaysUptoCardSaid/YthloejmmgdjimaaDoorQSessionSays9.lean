/-
  Texts of this proof, part 9: Ysk.
-/
import Derived.Test.YthloejmmgdjimaaDoorQSessionSays8
import Derived.Lib.AppendStr
import Derived.Lib.AppendZerosOnto
import Derived.Lib.MinMax
import Derived.WideKeyEntry
namespace Go.Proofs.YthloejmmgdjimaaDoor
open Go.RowKit
theorem eqArr {α : Type} [DecidableEq α] {P : Program} {t e : TypeId} {f : α → Value} (h : isArr2 P t = some e) (c : CellK P e f) (w : World) (a b : α × α) : (Op.equal t (pairV f a) (pairV f b)).run P w = .ok (decide (a = b)) w := by
  have hu : P.underlying t = some (.array 2 e) := by
    unfold isArr2 at h
    split at h
    · rename_i e' he; injection h with h; rw [he, h]
    · cases h
  obtain ⟨i, hi⟩ : ∃ i, P.info? e = some i := by
    have := c.plain
    unfold Program.plainKey at this
    cases hue : P.underlying e with
    | none => simp [hue] at this
    | some _ => exact info_of_underlying hue
  have h1 := fun x y : α => run_part_plain (P := P) w c.plain (xs := #[f x, f y]) (off := 0) (v := f x) rfl
  have h2 := fun x y : α => run_part_plain (P := P) w c.plain (xs := #[f x, f y]) (off := 1) (v := f y) rfl
  show (Op.equalIn (9999 + 1) t (.agg #[f a.1, f a.2]) (.agg #[f b.1, f b.2])).run P w = _
  rw [run_equalIn_array w 9999 _ _ hu hi, c.cells]
  show (Op.eqItems 9999 e 1 _ _ [0, 1]).run P w = _
  simp only [Op.eqItems, Sem.run_bind, Nat.zero_mul, Nat.one_mul, h1, h2, Result.andThen_ok, c.eq 9998, Sem.run_pure]
  obtain ⟨a1, a2⟩ := a
  obtain ⟨b1, b2⟩ := b
  by_cases e1 : a1 = b1 <;> by_cases e2 : a2 = b2 <;> simp [e1, e2, h2, c.eq 9998]
section
variable {P : Program} {F : Frm} {d : Option Tmp} {ty : TypeId} {pos : String} {aft : Array Edge} {g : Option (Nat × Bool)} {ρ : Operand → AV} {hp : List Blk} {K : AV → List Blk → Prop} {α : Type} [DecidableEq α]
theorem zEqA {t t' e : TypeId} {x y : Operand} {f : α → Value} (h : isArr2 P t = some e) (c : CellK P e f) (hg : P.eqGuardType P.depth t = false) (a b : α × α) (hK : K (.c (.lit (.bool (decide (a = b))))) hp)
    (hx : ∀ M u, RA M (ρ x) u → u = pairV f a := by intro M u h; first | exact kv_a h | exact kv_c h | exact kv_l h) (hy : ∀ M u, RA M (ρ y) u → u = pairV f b := by intro M u h; first | exact kv_a h | exact kv_c h | exact kv_l h) : LO P F ⟨d, .binOp .eql t x y t', ty, pos, aft, g⟩ ρ hp K := by
  refine LO.same (fun M ev w he hh => ?_) hK
  have h1 := hx M _ (he x (by first | (simp [Op.operands]; done) | simp [Op.operands, Call.operands]))
  have h2 := hy M _ (he y (by first | (simp [Op.operands]; done) | simp [Op.operands, Call.operands]))
  refine ⟨.bool (decide (a = b)), ?_, by simp only [RA, RT]⟩
  have hgd : (eqGuard .eql t x y (pairV f a) (pairV f b)).run P w = .ok () w := by
    unfold eqGuard pairV
    simp [hg]
  have hb : (binOp .eql t (pairV f a) (pairV f b)).run P w = .ok (.bool (decide (a = b))) w := by
    have := eqArr h c w a b
    unfold pairV at this ⊢
    simp [binOp, this]
  simp [execOp, h1, h2, hgd, hb]
end
set_option maxRecDepth 100000 in
set_option maxHeartbeats 1000000 in
theorem idxPr_af (l : List (Int × Int)) (s : Int × Int) : AF Tryd.prog 34 [.row l.length 2 (l.flatMap prTs), .agg (prTs s)] (· = iL (idxI (fun a => decide (s = a)) l)) := by
  refine af_enter tok Tryd.func34 Tryd.ntmps34 Tryd.results34 rfl (by kernel_rfl) rfl rfl fun F hX => ?_
  repeat (first | refine gG ?_ | refine zN1 (fun hlen => ?_) | refine zN2 (fun hlen => ?_) | refine zBf ?_)
  refine x_loop [4, 5, 8, 9, 10, 11, 12, 13, 14, 15, 16, 17, 18] (fun k : Nat => [(8, .c (iL (k : Nat)))]) (fun _ => []) (fun k => k ≤ l.length ∧ idxAt (fun a => decide (s = a)) l k) (fun k => l.length - k) 0 ⟨Nat.zero_le _, idxAt_zero _ l⟩ ⟨rfl, trivial⟩ rfl ?_
  rintro k hk
  repeat (first | refine gG ?_ | refine zN1 (fun hlen => ?_) | refine zN2 (fun hlen => ?_) | refine zBf ?_)
  refine x_cond rfl (fun h => ?_) (fun h => ?_)
  · have hk' : k < l.length := by simpa using h
    obtain ⟨a, ha⟩ := nth hk'
    have hat := pr_at ha
    have hno := fun hp => idxAt_no hk.2 ha hp
    have hyes := fun hp => idxAt_yes hk.2 ha hp
    clear h ha hk
    cases d1 : decide (s = a)
    · replace hno := hno d1
      repeat (first | refine gG ?_ | refine zN1 (fun hlen => ?_) | refine zN2 (fun hlen => ?_) | refine zBf ?_)
      refine ac_draw [1, 0, 0, 1, 1, 1] [0, 1, 2, 3, 4, 5] (by kernel_rfl) (by kernel_rfl) ?_
      refine gW ?_
      apply w_q; (focus exact rfl); (focus exact rfl); focus (intro _; (refine zIx k hk' ?_); exact det_refl)
      apply w_q; (focus exact rfl); (focus exact rfl); focus (intro _; (refine zEl hat rfl ?_); exact det_refl)
      apply w_q; (focus exact rfl); (focus exact rfl); focus (intro _; (refine zEqA (e := 3) (by kernel_rfl) (cellI (by kernel_rfl)) (by kernel_rfl) s a ?_ (by intro M u h; exact kv_c h) (by intro M u h; exact kv_c h)); exact det_refl)
      refine w_nil ?_
      repeat (first | refine gG ?_ | refine zN1 (fun hlen => ?_) | refine zN2 (fun hlen => ?_) | refine zBf ?_)
      exact ⟨k + 1, ⟨hk', hno⟩, by omega, x_wkd 0 ⟨rfl, trivial⟩ rfl (by repeat (first | exact ag_refl | refine ag_upd rfl ?_ | refine ag_at rfl rfl ?_))⟩
    · replace hyes := hyes d1
      repeat (first | refine gG ?_ | refine zN1 (fun hlen => ?_) | refine zN2 (fun hlen => ?_) | refine zBf ?_)
      refine ac_draw [1, 0, 0, 1, 1, 1] [0, 1, 2, 3, 4, 5] (by kernel_rfl) (by kernel_rfl) ?_
      refine gW ?_
      apply w_q; (focus exact rfl); (focus exact rfl); focus (intro _; (refine zIx k hk' ?_); exact det_refl)
      apply w_q; (focus exact rfl); (focus exact rfl); focus (intro _; (refine zEl hat rfl ?_); exact det_refl)
      apply w_q; (focus exact rfl); (focus exact rfl); focus (intro _; (refine zEqA (e := 3) (by kernel_rfl) (cellI (by kernel_rfl)) (by kernel_rfl) s a ?_ (by intro M u h; exact kv_c h) (by intro M u h; exact kv_c h)); exact det_refl)
      refine w_nil ?_
      repeat (first | refine gG ?_ | refine zN1 (fun hlen => ?_) | refine zN2 (fun hlen => ?_) | refine zBf ?_)
      first | refine zR ?_ | refine zQ ?_
      rw [hyes]; rfl
  · have hk' : k = l.length := by have : ¬ k < l.length := by simpa using h
                                  omega
    subst hk'
    repeat (first | refine gG ?_ | refine zN1 (fun hlen => ?_) | refine zN2 (fun hlen => ?_) | refine zBf ?_)
    first | refine zR ?_ | refine zQ ?_
    rw [idxAt_end hk.2]; rfl
set_option maxRecDepth 100000 in
set_option maxHeartbeats 1000000 in
theorem hasPr_af (l : List (Int × Int)) (s : Int × Int) : AF Tryd.prog 21 [.row l.length 2 (l.flatMap prTs), .agg (prTs s)] (· = .lit (.bool (decide (s ∈ l)))) := by
  have hc := idxPr_af l s
  have he : decide (s ∈ l) = decide (0 ≤ idxI (fun a => decide (s = a)) l) := by
    rw [idxI_any, Bool.eq_iff_iff, decide_eq_true_iff, List.any_eq_true]
    exact ⟨fun h => ⟨s, h, by simp⟩, fun ⟨a, ha, h⟩ => by have := of_decide_eq_true h; rw [this]; exact ha⟩
  rw [he]
  refine af_enter tok Tryd.func21 Tryd.ntmps21 Tryd.results21 rfl (by kernel_rfl) rfl rfl fun F hX => ?_
  repeat (first | refine gG ?_ | refine zBf ?_)
  refine zCall (hc) ?_
  rintro _ rfl
  repeat (first | refine gG ?_ | refine zBf ?_)
  first | refine zR ?_ | refine zQ ?_
  rfl
theorem prTs_len (p : Int × Int) : (prTs p).length = 2 := rfl
set_option maxRecDepth 100000 in
set_option maxHeartbeats 1000000 in
theorem idxBr_af (p : (Int × Int) → Bool) (f : FuncId) (cap : List T) (l : List (Int × Int)) (hf : ∀ a ∈ l, AF Tryd.prog f (.agg (prTs a) :: cap) (· = .lit (.bool (p a)))) :
    AF Tryd.prog 39 [.row l.length 2 (l.flatMap prTs), .fn (.func f) cap] (· = .lit (.int .i64 (idxI p l))) := by
  refine af_enter tok Tryd.func39 Tryd.ntmps39 Tryd.results39 rfl (by kernel_rfl) rfl rfl fun F hX => ?_
  repeat (first | refine gG ?_ | refine zN1 (fun hlen => ?_) | refine zN2 (fun hlen => ?_))
  refine x_loop [4, 5, 8, 9, 10, 11, 12, 13, 14, 15, 16, 17, 18] (fun k : Nat => [(8, .c (.lit (.int .i64 k)))]) (fun _ => []) (fun k => k ≤ l.length ∧ idxAt p l k) (fun k => l.length - k) 0 ⟨Nat.zero_le _, idxAt_zero p l⟩ ⟨rfl, trivial⟩ rfl fun k hk => ?_
  repeat (first | refine gG ?_ | refine zN1 (fun hlen => ?_) | refine zN2 (fun hlen => ?_))
  refine x_cond rfl (fun h => ?_) (fun h => ?_)
  · have hk' : k < l.length := by simpa using h
    obtain ⟨a, ha⟩ := nth hk'
    have hs := hf a (List.mem_of_getElem? ha)
    repeat (first | refine gG ?_ | refine zN1 (fun hlen => ?_) | refine zN2 (fun hlen => ?_))
    refine lo_idx tok k rfl rfl rfl hk' rfl rfl rfl rfl ?_
    repeat (first | refine gG ?_ | refine zN1 (fun hlen => ?_) | refine zN2 (fun hlen => ?_))
    refine lo_load_pin tok rfl rfl rfl (flat_at prTs 2 prTs_len ha) (prTs_len a) ?_
    repeat (first | refine gG ?_ | refine zN1 (fun hlen => ?_) | refine zN2 (fun hlen => ?_))
    refine v_callc hs rfl (by first | exact rzs_cons rz_c rzs_self | (repeat (first | exact rzs_nil | apply rzs_cons | exact rz_c | exact rz_nil rfl | apply rz_agg | exact rz_own rfl | apply rz_fn | exact rz_ptr rfl | apply rz_tup))) ?_
    rintro _ rfl
    cases hp : p a
    · repeat (first | refine gG ?_ | refine zN1 (fun hlen => ?_) | refine zN2 (fun hlen => ?_))
      exact ⟨k + 1, ⟨hk', idxAt_no hk.2 ha hp⟩, by omega, x_wkd 0 ⟨rfl, trivial⟩ rfl (by repeat (first | exact ag_refl | refine ag_upd rfl ?_ | refine ag_at rfl rfl ?_))⟩
    · repeat (first | refine gG ?_ | refine zN1 (fun hlen => ?_) | refine zN2 (fun hlen => ?_))
      first | refine zR ?_ | refine zQ ?_
      rw [idxAt_yes hk.2 ha hp]; rfl
  · have hk' : k = l.length := by have : ¬ k < l.length := by simpa using h
                                  omega
    subst hk'
    repeat (first | refine gG ?_ | refine zN1 (fun hlen => ?_) | refine zN2 (fun hlen => ?_))
    first | refine zR ?_ | refine zQ ?_
    rw [idxAt_end hk.2]; rfl
set_option maxRecDepth 100000 in
set_option maxHeartbeats 1000000 in
theorem hasBr_af (p : Int × Int → Bool) (f : FuncId) (cap : List T) (l : List (Int × Int)) (hf : ∀ a ∈ l, AF Tryd.prog f (.agg (prTs a) :: cap) (· = .lit (.bool (p a)))) :
    AF Tryd.prog 32 [.row l.length 2 (l.flatMap prTs), .fn (.func f) cap] (· = .lit (.bool (l.any p))) := by
  have hc := idxBr_af p f cap l hf
  refine af_enter tok Tryd.func32 Tryd.ntmps32 Tryd.results32 rfl (by kernel_rfl) rfl rfl fun F hX => ?_
  repeat (first | refine gG ?_)
  refine zCall (hc) ?_
  rintro _ rfl
  repeat (first | refine gG ?_)
  first | refine zR ?_ | refine zQ ?_
  rw [← idxI_any]; rfl
set_option maxRecDepth 100000 in
set_option maxHeartbeats 1000000 in
theorem covers1_af (a : Se) (x : Int × Int) : AF Tryd.prog 33 [.agg (prTs x), .pin (Se.ts a) 0] (· = .lit (.bool (decide (nxS a.br x.1 < 0)))) := by
  have hc := next_af a x.1
  generalize nxS a.br x.1 = n at *
  obtain ⟨kd, br⟩ := a
  refine af_enter tok Tryd.func33 Tryd.ntmps33 Tryd.results33 rfl (by kernel_rfl) rfl rfl fun F hX => ?_
  repeat (first | refine gG ?_ | refine zBf ?_)
  refine zCall (hc) ?_
  rintro _ rfl
  repeat (first | refine gG ?_ | refine zBf ?_)
  first | refine zR ?_ | refine zQ ?_
  rfl
/-- each message of b is one of a -/
def covB (a b : List (Int × Int)) : Bool := !b.any fun x => decide (nxS a x.1 < 0)
theorem covB_t {a b : List (Int × Int)} : covB a b = true ↔ ∀ z ∈ b, 0 ≤ nxS a z.1 := by
  unfold covB
  simp
set_option maxRecDepth 100000 in
set_option maxHeartbeats 1000000 in
theorem covers_af (a b : Se) : AF Tryd.prog 20 [a.t, b.t] (· = .lit (.bool (covB a.br b.br))) := by
  have hc := hasBr_af (fun x => decide (nxS a.br x.1 < 0)) 33 [.pin (Se.ts a) 0] b.br (fun x _ => covers1_af a x)
  unfold covB
  generalize b.br.any (fun x => decide (nxS a.br x.1 < 0)) = z at *
  obtain ⟨ka, ba⟩ := a
  obtain ⟨kb, bb⟩ := b
  refine af_enter tok Tryd.func20 Tryd.ntmps20 Tryd.results20 rfl (by kernel_rfl) rfl rfl fun F hX => ?_
  repeat (first | refine gG ?_ | refine zBf ?_)
  refine zCall (hc) ?_
  rintro _ rfl
  repeat (first | refine gG ?_ | refine zBf ?_)
  first | refine zR ?_ | refine zQ ?_
  rfl
end Go.Proofs.YthloejmmgdjimaaDoor
