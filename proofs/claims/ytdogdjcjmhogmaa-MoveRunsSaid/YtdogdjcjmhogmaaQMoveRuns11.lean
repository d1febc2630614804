/-
  Texts of this proof, part 11: Kol Kom Kon Kra Krb.
-/
import Derived.Test.YtdogdjcjmhogmaaQMoveRuns10
import Derived.Lib.MinMax
namespace Go.Proofs.Ytdogdjcjmhogmaa
open Go.RowKit
section
variable {F : Frm} {τ : Nat → AV} {hp : List Blk} {N : Nat}
theorem set_get {α : Type} {l : List α} {j : Nat} {a : α} (h : l[j]? = some a) : l.set j a = l := by
  obtain ⟨h1, rfl⟩ := List.getElem?_eq_some_iff.1 h
  exact List.set_getElem_self _
/-- a row that is held asq a literal in another row becomes closed there -/
theorem wk_rowcell {vg v : Value} {e e' : TypeId} {sz' n sz m : Nat} {cs ts : List T} (i k j : Nat) (hik : k ≠ i) (hi : hp[i]? = some (.row vg e sz' n cs)) (hk : hp[k]? = some (.row v e' sz m ts)) (hj : cs[j]? = some (.lit v)) :
    Wk F ⟨τ, hp, N⟩ ⟨τ, (hp.set k .dead).set i (.row vg e sz' n (cs.set j (.row m sz ts))), N⟩ := by
  intro M a w hr
  obtain ⟨h1, h2⟩ := heap_frz hr.heap hk
  have hi' : (hp.set k .dead)[i]? = some (.row vg e sz' n cs) := by rw [List.getElem?_set_ne hik]; exact hi
  refine ⟨_, fun s => RA.mono (frB_sub _ _ _) _ _ (hr.tmps s), hr.size, hr.defers, h1.step i rfl rfl rfl (Nat.le_refl _) (fun _ _ _ => rfl) (Ext.refl _ _) (fun p v h1 h2 => by rw [h2] at h1; cases h1) (fun q hq => by rw [List.getElem?_set_ne (Ne.symm hq)]) (fun x' hx' => ?_)⟩
  have hlt : i < (hp.set k .dead).length := (List.getElem?_eq_some_iff.1 hi').1
  rw [List.getElem?_set_self hlt] at hx'
  obtain rfl : Blk.row vg e sz' n (cs.set j (.row m sz ts)) = x' := by injection hx'
  obtain ⟨xs, ho, hx, hone, hpos⟩ := h1.at_ i _ hi'
  refine ⟨⟨xs, ho, ?_, hone, hpos⟩, fun b' hb' => .inl ⟨_, hi', hb'⟩⟩
  obtain ⟨u, hu, hu2⟩ := hx.get hj
  simp only [RT] at hu2
  subst hu2
  have := RTs.set j hx h2
  rwa [set_get hu] at this
theorem wk_dead1 {a : Blk} {L : List Blk} : Wk F ⟨τ, a :: .dead :: L, N⟩ ⟨τ, a :: L, N⟩ := by
  refine Wk.trans (wk_perm (hp' := (a :: L) ++ [Blk.dead]) ?_) ?_
  · simpa using perm_parts [[a], [Blk.dead], L] [0, 2, 1] (show List.Perm _ (List.range 3) by decide)
  refine Wk.trans (wk_drop (a :: L).length) ?_
  dsimp only
  rw [show ((a :: L) ++ [Blk.dead]).take (a :: L).length = a :: L from List.take_left]
  exact Wk.refl _
/-- a row of rows, all closed -/
theorem wk_shutF {α : Type} {vg : Value} {e e' : TypeId} {n sz : Nat} (ln : α → Nat) (ts : α → List T) : ∀ (S : List (Value × α)) (D : List T) (L : List Blk),
    Wk F ⟨τ, .row vg e 1 n (D ++ litL S) :: (S.map (fun q => Blk.row q.1 e' sz (ln q.2) (ts q.2)) ++ L), N⟩ ⟨τ, .row vg e 1 n (D ++ S.map fun q => T.row (ln q.2) sz (ts q.2)) :: L, N⟩
  | [], D, L => Wk.refl _
  | q :: S, D, L => by
    have h1 := wk_rowcell (F := F) (τ := τ) (N := N) (hp := .row vg e 1 n (D ++ litL (q :: S)) :: ((q :: S).map (fun q => Blk.row q.1 e' sz (ln q.2) (ts q.2)) ++ L)) 0 1 D.length (by omega) rfl rfl (v := q.1) (sz := sz) (m := ln q.2) (ts := ts q.2) (by
      show (D ++ (T.lit q.1 :: litL S))[D.length]? = _
      simp)
    refine Wk.trans h1 ?_
    have e1 : (D ++ litL (q :: S)).set D.length (T.row (ln q.2) sz (ts q.2)) = (D ++ [T.row (ln q.2) sz (ts q.2)]) ++ litL S := by
      show (D ++ (T.lit q.1 :: litL S)).set D.length _ = _
      simp
    rw [e1]
    refine Wk.trans (wk_dead1 (a := .row vg e 1 n ((D ++ [T.row (ln q.2) sz (ts q.2)]) ++ litL S)) (L := S.map (fun q => Blk.row q.1 e' sz (ln q.2) (ts q.2)) ++ L)) ?_
    refine Wk.trans (wk_shutF ln ts S (D ++ [T.row (ln q.2) sz (ts q.2)]) L) ?_
    rw [List.map_cons, List.append_assoc]
    exact Wk.refl _
end
section
variable {P : Program} {F : Frm} {L : Tab} {d : Option Tmp} {ty : TypeId} {pos : String} {aft : Array Edge} {g : Option (Nat × Bool)} {ρ : Operand → AV} {hp : List Blk} {K : AV → List Blk → Prop}
/-- how long a row is that is held asq a literal -/
theorem zLenL {t el : TypeId} {ti : TI} {x : Operand} {n sz : Nat} {v : Value} {e' : TypeId} {cs : List T} (i : Nat) (hi : hp[i]? = some (.row v e' sz n cs)) (h : n ≤ 9223372036854775807 → K (.c (.lit (.int .i64 n))) hp) (hL : TabOk P L := by exact tok) (hx : ρ x = .c (.lit v) := by exact rfl) (ht : L.look t = some ti := by exact rfl) (hd : ti.d = .slice el := by exact rfl) : LO P F ⟨d, .call { callee := .builtin .len, args := #[x], argTypes := #[t] }, ty, pos, aft, g⟩ ρ hp K := by
  refine ⟨fun M e w he hh => ?_⟩
  have h1 := he x (by first | (simp [Op.operands]; done) | simp [Op.operands, Call.operands])
  rw [hx] at h1
  simp only [RA, RT] at h1
  obtain ⟨xs, ho, _⟩ := hh.at_ i _ hi
  obtain ⟨A, c, rfl, hnc, hc⟩ := ownO_shape ho
  have : (execOp e ⟨d, .call { callee := .builtin .len, args := #[x], argTypes := #[t] }, ty, pos, aft, g⟩).run P w = .ok (.value (.int .i64 n)) w := by
    simp [execOp, resolve, invoke, builtin, Builtin.len_, h1, run_underlying (hL.slice ht hd), goInt]
  rw [this]
  exact ⟨M, _, hp, h (Nat.le_trans hnc hc), Ext.refl _ _, hh, by simp only [RA, RT]⟩
end
def sumF (f : Nat → Nat) (Q : List Nat) : Nat := (Q.map f).sum
theorem sumF_snoc (f : Nat → Nat) (Q : List Nat) (k : Nat) : sumF f (Q ++ [k]) = sumF f Q + f k := by simp [sumF]
theorem sumF_perm {f : Nat → Nat} {Q Q' : List Nat} (h : Q.Perm Q') : sumF f Q = sumF f Q' := (h.map f).sum_nat
theorem sumF_range {α : Type} (f : α → Nat) : ∀ (l : List α) (o : Nat), sumF (fun k => ((l[k - o]?).map f).getD 0) (List.range' o l.length) = (l.map f).sum
  | [], _ => rfl
  | a :: l, o => by
    have ih := sumF_range f l (o + 1)
    unfold sumF at ih ⊢
    rw [List.length_cons, List.range'_succ, List.map_cons, List.sum_cons, List.map_cons, List.sum_cons, ← ih]
    have e : (List.range' (o + 1) l.length).map (fun k => (((a :: l)[k - o]?).map f).getD 0) = (List.range' (o + 1) l.length).map (fun k => ((l[k - (o + 1)]?).map f).getD 0) := List.map_congr_left fun k hk => by
      have := (List.mem_range'_1.1 hk).1
      rw [show k - o = (k - (o + 1)) + 1 by omega]
      rfl
    rw [e]
    simp
theorem perm_range {Q : List Nat} {n : Nat} (hn : Q.Nodup) (hl : ∀ p ∈ Q, p < n) (ha : ∀ k, k < n → k ∈ Q) : Q.Perm (List.range n) :=
  (List.perm_ext_iff_of_nodup hn List.nodup_range).2 fun a => ⟨fun h => List.mem_range.2 (hl a h), fun h => ha a (List.mem_range.1 h)⟩
theorem sumF_all {α : Type} (f : α → Nat) {l : List α} {Q : List Nat} (hn : Q.Nodup) (hl : ∀ p ∈ Q, p < l.length) (ha : ∀ k, k < l.length → k ∈ Q) : sumF (fun k => ((l[k]?).map f).getD 0) Q = (l.map f).sum := by
  rw [sumF_perm (perm_range hn hl ha), List.range_eq_range']
  exact sumF_range f l 0
end Go.Proofs.Ytdogdjcjmhogmaa
namespace Go.Proofs.Ytdogdjcjmhogmaa
open Go.RowKit
theorem do_ag (x : Fx) (w : Ws) (d : Dd) {k : Nat} (hk : k < 400) (hZ : SOk x.nA x.nd k w.z) :
    AG Try.prog 52 [.ptr 0 x.b 0, .c (.agg (ddTs d))] (allB x w) (fun _ hs => Gave x (doZ x.nd d w.z) hs) := by
  obtain ⟨dk, ds, dd, dw, dn⟩ := d
  unfold SOk at hZ
  by_cases k1 : dk = 1
  · exact do_put x w dk ds dd dw dn hZ (by omega) (by omega) (by omega) (by omega) (by omega) k1
  by_cases k2 : dk = 2
  · exact do_shift x w dk ds dd dw dn hZ (by omega) (by omega) k2
  by_cases k3 : dk = 3
  · exact do_come x w dk ds dd dw dn hZ (by omega) (by omega) (by omega) (by omega) k3
  exact do_none x w dk ds dd dw dn k1 k2 k3
set_option maxRecDepth 100000 in
set_option maxHeartbeats 1000000 in
theorem idxIntF_af (p : Int → Bool) (f : FuncId) (cap : List T) (l : List Int) (hf : ∀ a ∈ l, AF Try.prog f ((intTs a).headD (.lit undef) :: cap) (· = .lit (.bool (p a)))) :
    AF Try.prog 72 [.row l.length 1 (l.flatMap intTs), .fn (.func f) cap] (· = .lit (.int .i64 (idxI p l))) := by
  refine af_enter tok Try.func72 Try.ntmps72 Try.results72 rfl (by kernel_rfl) rfl rfl fun F hX => ?_
  repeat (first | refine gG ?_ | refine zN1 (fun hlen => ?_) | refine zN2 (fun hlen => ?_))
  refine x_loop [4, 5, 8, 9, 10, 11, 12, 13, 14, 15, 16, 17, 18] (fun k : Nat => [(8, .c (.lit (.int .i64 k)))]) (fun _ => []) (fun k => k ≤ l.length ∧ idxAt p l k) (fun k => l.length - k) 0 ⟨Nat.zero_le _, idxAt_zero p l⟩ ⟨rfl, trivial⟩ rfl fun k hk => ?_
  repeat (first | refine gG ?_ | refine zN1 (fun hlen => ?_) | refine zN2 (fun hlen => ?_))
  refine x_cond rfl (fun h => ?_) (fun h => ?_)
  · have hk' : k < l.length := by simpa using h
    obtain ⟨a, ha⟩ := nth hk'
    have hs := hf a (List.mem_of_getElem? ha)
    repeat (first | refine gG ?_ | refine zN1 (fun hlen => ?_) | refine zN2 (fun hlen => ?_))
    refine lo_idx tok k rfl rfl rfl hk' rfl rfl rfl rfl ?_
    repeat (first | refine gG ?_ | refine zN1 (fun hlen => ?_) | refine zN2 (fun hlen => ?_))
    refine lo_load_pin1 tok rfl rfl rfl (int_at ha) ?_
    repeat (first | refine gG ?_ | refine zN1 (fun hlen => ?_) | refine zN2 (fun hlen => ?_))
    refine v_callc hs rfl (by first | exact rzs_cons rz_c rzs_self | (repeat (first | exact rzs_nil | apply rzs_cons | exact rz_c | exact rz_nil rfl | apply rz_agg | exact rz_own rfl | apply rz_fn | exact rz_ptr rfl | apply rz_tup))) ?_
    rintro _ rfl
    cases hp : p a
    · repeat (first | refine gG ?_ | refine zN1 (fun hlen => ?_) | refine zN2 (fun hlen => ?_))
      exact ⟨k + 1, ⟨hk', idxAt_no hk.2 ha hp⟩, by omega, x_wkd 0 ⟨rfl, trivial⟩ rfl (by repeat (first | exact ag_refl | refine ag_upd rfl ?_ | refine ag_at rfl rfl ?_))⟩
    · repeat (first | refine gG ?_ | refine zN1 (fun hlen => ?_) | refine zN2 (fun hlen => ?_))
      first | refine zR ?_ | refine zQ ?_
      rw [idxAt_yes hk.2 ha hp]; rfl
  · have hk' : k = l.length := by have : ¬ k < l.length := by simpa using h
                                  omega
    subst hk'
    repeat (first | refine gG ?_ | refine zN1 (fun hlen => ?_) | refine zN2 (fun hlen => ?_))
    first | refine zR ?_ | refine zQ ?_
    rw [idxAt_end hk.2]; rfl
set_option maxRecDepth 100000 in
set_option maxHeartbeats 1000000 in
theorem hasIntF_af (p : Int → Bool) (f : FuncId) (cap : List T) (l : List Int) (hf : ∀ a ∈ l, AF Try.prog f (.lit (.int .i64 a) :: cap) (· = .lit (.bool (p a)))) :
    AF Try.prog 49 [intRow l, .fn (.func f) cap] (· = .lit (.bool (l.any p))) := by
  have hc := idxIntF_af p f cap l hf
  refine af_enter tok Try.func49 Try.ntmps49 Try.results49 rfl (by kernel_rfl) rfl rfl fun F hX => ?_
  repeat (first | refine gG ?_)
  refine zCall (hc) ?_
  rintro _ rfl
  repeat (first | refine gG ?_)
  first | refine zR ?_ | refine zQ ?_
  rw [← idxI_any]; rfl
theorem run1_af (nodes n : Int) : AF Try.prog 50 [iL n, .pin [iL nodes] 0] (· = .lit (.bool (decide (n < 1) || decide (n > nodes)))) := by
  cases d0 : decide (n < 1) <;>
  · refine af_enter tok Try.func50 Try.ntmps50 Try.results50 rfl (by kernel_rfl) rfl rfl fun F hX => ?_
    repeat (first | refine gG ?_)
    first | refine zR ?_ | refine zQ ?_
    rfl
def outN (nodes n : Int) : Bool := decide (n < 1) || decide (n > nodes)
def runErr (nodes : Int) (l : List Int) (ds : List Dd) : Int := if nodes < 1 ∨ 8 < nodes then 1 else if 5 < l.length ∨ 400 < ds.length then 2 else if l.any (outN nodes) = true then 1 else 0
def ddRow (ds : List Dd) : T := .row ds.length 5 (ds.flatMap ddTs)
set_option maxRecDepth 100000 in
set_option maxHeartbeats 4000000 in
theorem run_err (nodes : Int) (l : List Int) (ds : List Dd) (he : runErr nodes l ds ≠ 0) : AF Try.prog 30 [iL nodes, intRow l, ddRow ds] (· = .tup [.agg [.lit (.slice none 0 0), .lit (.slice none 0 0), iL 0, iL 0], iL (runErr nodes l ds)]) := by
  have hc := hasIntF_af (outN nodes) 50 [.pin [iL nodes] 0] l (fun a _ => run1_af nodes a)
  unfold runErr at he ⊢
  cases d0 : decide (nodes < 1)
  rotate_left
  · rw [if_pos (.inl (of_decide_eq_true d0))]
    refine af_enter tok Try.func30 Try.ntmps30 Try.results30 rfl (by kernel_rfl) rfl rfl fun F hX => ?_
    repeat (first | refine gG ?_ | refine zN1 (fun hlen => ?_) | refine zN2 (fun hlen => ?_) | refine zAl (fun _ => ?_) | refine zBf ?_)
    first | refine zR ?_ | refine zQ ?_
    rfl
  have n0 := of_decide_eq_false d0
  cases d1 : decide (nodes > 8)
  rotate_left
  · rw [if_pos (.inr (of_decide_eq_true d1))]
    refine af_enter tok Try.func30 Try.ntmps30 Try.results30 rfl (by kernel_rfl) rfl rfl fun F hX => ?_
    repeat (first | refine gG ?_ | refine zN1 (fun hlen => ?_) | refine zN2 (fun hlen => ?_) | refine zAl (fun _ => ?_) | refine zBf ?_)
    first | refine zR ?_ | refine zQ ?_
    rfl
  have n1 := of_decide_eq_false d1
  rw [if_neg (by omega)] at he ⊢
  cases d2 : decide (((l.length : Nat) : Int) > 5)
  rotate_left
  · rw [if_pos (.inl (by have := of_decide_eq_true d2; omega))]
    refine af_enter tok Try.func30 Try.ntmps30 Try.results30 rfl (by kernel_rfl) rfl rfl fun F hX => ?_
    repeat (first | refine gG ?_ | refine zN1 (fun hlen => ?_) | refine zN2 (fun hlen => ?_) | refine zAl (fun _ => ?_) | refine zBf ?_)
    first | refine zR ?_ | refine zQ ?_
    rfl
  have n2 := of_decide_eq_false d2
  cases d3 : decide (((ds.length : Nat) : Int) > 400)
  rotate_left
  · rw [if_pos (.inr (by have := of_decide_eq_true d3; omega))]
    refine af_enter tok Try.func30 Try.ntmps30 Try.results30 rfl (by kernel_rfl) rfl rfl fun F hX => ?_
    repeat (first | refine gG ?_ | refine zN1 (fun hlen => ?_) | refine zN2 (fun hlen => ?_) | refine zAl (fun _ => ?_) | refine zBf ?_)
    first | refine zR ?_ | refine zQ ?_
    rfl
  have n3 := of_decide_eq_false d3
  rw [if_neg (by omega)] at he ⊢
  cases d4 : l.any (outN nodes)
  · rw [d4] at he; exact absurd rfl he
  rw [d4] at hc
  rw [if_pos rfl]
  refine af_enter tok Try.func30 Try.ntmps30 Try.results30 rfl (by kernel_rfl) rfl rfl fun F hX => ?_
  repeat (first | refine gG ?_ | refine zN1 (fun hlen => ?_) | refine zN2 (fun hlen => ?_) | refine zAl (fun _ => ?_) | refine zBf ?_)
  refine zCall (hc) ?_
  rintro _ rfl
  repeat (first | refine gG ?_ | refine zN1 (fun hlen => ?_) | refine zN2 (fun hlen => ?_) | refine zAl (fun _ => ?_) | refine zBx (fun _ => ?_))
  first | refine zR ?_ | refine zQ ?_
  rfl
end Go.Proofs.Ytdogdjcjmhogmaa
namespace Go.Proofs.Ytdogdjcjmhogmaa
open Go.RowKit
section
variable {P : Program} {F : Frm} {L : Tab} {d : Option Tmp} {ty : TypeId} {pos : String} {aft : Array Edge} {g : Option (Nat × Bool)} {ρ : Operand → AV} {hp : List Blk} {K : AV → List Blk → Prop}
/-- a store into a variable, where the other blocks are not written out -/
theorem zStS {t : TypeId} {ti : TI} {x y : Operand} {i b off : Nat} {tb : TypeId} {cs cs' : List AV} {v : AV} (h : K (.c (.lit undef)) (hp.set i (.box b tb cs'))) (hL : TabOk P L := by exact tok) (hx : ρ x = .ptr i b off := by exact rfl) (hi : hp[i]? = some (.box b tb cs) := by exact rfl) (hv : fc (ρ y) = some v := by exact rfl) (ht : L.look t = some ti := by exact rfl) (h1 : allOne (cellsA v) = true := by first | exact rfl | assumption) (hl : (cellsA v).length = ti.size := by exact rfl) (hb : Nat.ble (off + ti.size) cs.length = true := by exact rfl) (hs : evl (spl cs off (cellsA v)) = some cs' := by exact rfl) :
    LO P F ⟨d, .store t x y, ty, pos, aft, g⟩ ρ hp K := lo_store hL hx hi (fc_eq hv) ht h1 hl hb (by rw [← evl_eq hs]; exact h)
end
/-- a world with a variable behind its head -/
@[reducible] def obB (b : Nat) (x : Fx) (p q : Nat) : Blk := .box b 66 [.own 7 x.vg, .own 1 x.va, .c (iL p), .c (iL q)]
def wayN (W : List ((Int × Int) × (Value × List El))) (k : Nat) : Nat := ((W[k]?).map fun p => p.2.2.length).getD 0
theorem sumF_le {f : Nat → Nat} {Q : List Nat} {n : Nat} (hn : Q.Nodup) (hl : ∀ p ∈ Q, p < n) : sumF f Q ≤ sumF f (List.range n) := by
  have hp : (Q ++ (List.range n).filter fun a => !Q.contains a).Perm (List.range n) := by
    refine (List.perm_ext_iff_of_nodup ?_ List.nodup_range).2 fun a => ?_
    · rw [List.nodup_append]
      refine ⟨hn, List.nodup_range.filter _, fun a ha b hb e => ?_⟩
      subst e
      have := (List.mem_filter.1 hb).2
      rw [List.contains_iff_mem.2 ha] at this
      cases this
    · rw [List.mem_append, List.mem_filter, List.mem_range]
      constructor
      · rintro (h | h)
        · exact hl a h
        · exact h.1
      · intro h
        by_cases hq : a ∈ Q
        · exact .inl hq
        · refine .inr ⟨h, ?_⟩
          cases hc : Q.contains a with
          | false => rfl
          | true => exact absurd (List.contains_iff_mem.1 hc) hq
  rw [← sumF_perm hp]
  simp [sumF]
theorem wayN_all {W : List ((Int × Int) × (Value × List El))} {Q : List Nat} (hn : Q.Nodup) (hl : ∀ p ∈ Q, p < W.length) (ha : ∀ k, k < W.length → k ∈ Q) : sumF (wayN W) Q = sumW (bare W) := by
  have := sumF_all (fun p : (Int × Int) × (Value × List El) => p.2.2.length) hn hl ha
  rw [show sumF (wayN W) Q = _ from this]
  simp [sumW, bare, Function.comp_def]
theorem wayN_le {W : List ((Int × Int) × (Value × List El))} {Q : List Nat} (hn : Q.Nodup) (hl : ∀ p ∈ Q, p < W.length) : sumF (wayN W) Q ≤ sumW (bare W) := by
  rw [← wayN_all (W := W) List.nodup_range (fun p hp => List.mem_range.1 hp) (fun k hk => List.mem_range.2 hk)]
  exact sumF_le hn hl
structure WalkQ (n : Nat) (P : List Nat) : Prop where
  nd : P.Nodup
  lt : ∀ p ∈ P, p < n
theorem entW {W : List ((Int × Int) × (Value × List El))} {k : Nat} {u : Value} {t : T} (h : (mkeys pI (mapT litV W))[k]? = some (u, t)) : ∃ p, W[k]? = some p ∧ u = pI p.1 ∧ t = .lit p.2.1 := by
  simp only [mkeys, mapT, List.map_map, List.getElem?_map] at h
  cases hD : W[k]? with
  | none => rw [hD] at h; cases h
  | some p =>
    rw [hD] at h
    simp only [Option.map_some, Option.some.injEq, Function.comp, Prod.mk.injEq] at h
    exact ⟨p, rfl, h.1.symm, h.2.symm⟩
theorem sum_take_le : ∀ (l : List Nat) (k : Nat), (l.take k).sum ≤ l.sum
  | [], _ => by simp
  | a :: l, 0 => by simp
  | a :: l, k + 1 => by
    have := sum_take_le l k
    simp only [List.take_succ_cons, List.sum_cons]
    omega
theorem sumF_bound {f : Nat → Nat} {c : Nat} (h : ∀ k, f k ≤ c) : ∀ P : List Nat, sumF f P ≤ c * P.length
  | [] => by simp [sumF]
  | a :: P => by
    have := sumF_bound h P
    have := h a
    unfold sumF at *
    simp only [List.map_cons, List.sum_cons, List.length_cons, Nat.mul_add, Nat.mul_one]
    omega
theorem keysE_len (nd : Nat) : ∀ nA : Nat, (keysE nA nd).length = nA * nd
  | 0 => by simp [keysE]
  | k + 1 => by
    rw [keysE_succ, List.length_append, keysE_len nd k]
    simp [rowK, Nat.add_mul]
def stoN (ks : List (Int × Int)) (f : Int → Int → List (Int × Int)) (k : Nat) : Nat := ((ks[k]?).map fun key => (f key.1 key.2).length).getD 0
theorem entI {g : Int × Int → Nat × Nat} {ks : List (Int × Int)} {k : Nat} {u : Value} {t : T} (h : (mkeys pI (tabK (ibT g) ks))[k]? = some (u, t)) : ∃ p, ks[k]? = some p ∧ u = pI p ∧ t = ibT g p := by
  simp only [mkeys, tabK, List.map_map, List.getElem?_map] at h
  cases hD : ks[k]? with
  | none => rw [hD] at h; cases h
  | some p =>
    rw [hD] at h
    simp only [Option.map_some, Option.some.injEq, Function.comp, Prod.mk.injEq] at h
    exact ⟨p, rfl, h.1.symm, h.2.symm⟩
theorem wk_forget {F : Frm} {τ : Nat → AV} {N : Nat} {H L : List Blk} {a : Blk} : Wk F ⟨τ, H ++ (a :: L), N⟩ ⟨τ, H ++ L, N⟩ := by
  refine Wk.trans (wk_perm (hp' := (H ++ L) ++ [a]) ?_) ?_
  · simpa using perm_parts [H, [a], L] [0, 2, 1] (show List.Perm _ (List.range 3) by decide)
  refine Wk.trans (wk_drop (H ++ L).length) ?_
  dsimp only
  rw [show ((H ++ L) ++ [a]).take (H ++ L).length = H ++ L from List.take_left]
  exact Wk.refl _
theorem dd_at {l : List Dd} {k : Nat} {y : Dd} (h : l[k]? = some y) : ((l.flatMap ddTs).drop (k * 5)).take 5 = ddTs y := flat_at ddTs 5 (fun _ => rfl) h
theorem fold_snocD {f : Zt → Dd → Zt} {Z : Zt} {l : List Dd} {k : Nat} {y : Dd} (h : l[k]? = some y) : (l.take (k + 1)).foldl f Z = f ((l.take k).foldl f Z) y := by
  obtain ⟨h1, rfl⟩ := List.getElem?_eq_some_iff.1 h
  rw [List.take_succ_eq_append_getElem h1, List.foldl_append]
  rfl
def sumS (nA nd : Nat) (f : Int → Int → List (Int × Int)) : Nat := ((keysE nA nd).map fun k => (f k.1 k.2).length).sum
def gotT (l : List (Int × Int)) : T := .row l.length 2 (l.flatMap goTs)
def toldT (nA nd : Nat) (Z : Zt) : T := .agg [.row Z.got.length 1 (Z.got.map gotT), intRow Z.at_, iL (sumW Z.ways : Nat), iL (sumL Z.wait + sumS nA nd Z.sto : Nat)]
@[reducible] def reB (b : Nat) : Blk := .box b 66 [.c (.lit (.slice none 0 0)), .c (.lit (.slice none 0 0)), .c (iL 0), .c (iL 0)]
set_option maxRecDepth 100000 in
set_option maxHeartbeats 16000000 in
theorem run_ok (nd : Nat) (l : List Int) (ds : List Dd) (h1 : 1 ≤ nd) (h8 : nd ≤ 8) (hl : l.length ≤ 5) (hd : ds.length ≤ 400) (ha : l.any (outN nd) = false) :
    AF Try.prog 30 [iL nd, intRow l, ddRow ds] (· = .tup [toldT l.length nd (ds.foldl (fun Z d => doZ nd d Z) (startZ nd l)), iL 0]) := by
  have hc := hasIntF_af (outN nd) 50 [.pin [iL nd] 0] l (fun a _ => run1_af nd a)
  rw [ha] at hc
  have hal : ∀ a ∈ l, 1 ≤ a ∧ a ≤ (nd : Int) := fun a hm => by
    have := List.any_eq_false.1 ha a hm
    unfold outN at this
    simp at this
    omega
  have d0 : decide ((nd : Int) < 1) = false := decide_eq_false (by omega)
  have d1 : decide ((nd : Int) > 8) = false := decide_eq_false (by omega)
  have d2 : decide (((l.length : Nat) : Int) > 5) = false := decide_eq_false (by omega)
  have d3 : decide (((ds.length : Nat) : Int) > 400) = false := decide_eq_false (by omega)
  refine af_enter tok Try.func30 Try.ntmps30 Try.results30 rfl (by kernel_rfl) rfl rfl fun F hX => ?_
  repeat (first | refine gG ?_ | refine zN1 (fun hlen => ?_) | refine zN2 (fun hlen => ?_) | refine zAl (fun _ => ?_) | refine zBf ?_)
  rename_i b6 _
  refine zCall (hc) ?_
  rintro _ rfl
  repeat (first | refine gG ?_ | refine zN1 (fun hlen => ?_) | refine zN2 (fun hlen => ?_) | refine zAl (fun _ => ?_) | refine zBx (fun _ => ?_))
  refine lo_frame [] [reB b6] (List.Perm.refl _) (fun F' => ?_)
  refine zCallAll (new_ag nd l h8 hl) (List.Perm.refl _) ?_
  rintro _ _ ⟨x, hx1, hx2, rfl, w1, hz1, hq1⟩
  refine ⟨_, re_refl, ?_⟩
  refine al_wk (wk_perm (hq1.append_right _)) ?_
  repeat (first | refine gG ?_ | refine zN1 (fun hlen => ?_) | refine zN2 (fun hlen => ?_) | refine zAl (fun _ => ?_) | refine zBx (fun _ => ?_))
  refine x_loop [10, 46, 47, 48, 49, 50, 51, 52, 53] (fun q : Nat × Ws => [(46, .c (iL (q.1 : Nat)))]) (fun q => allB x q.2 ++ [reB b6]) (fun q => q.1 ≤ ds.length ∧ q.2.z = (ds.take q.1).foldl (fun Z d => doZ nd d Z) (startZ nd l) ∧ SOk x.nA x.nd q.1 q.2.z) (fun q => ds.length - q.1) (0, w1) ⟨Nat.zero_le _, hz1, by rw [hz1, hx1, hx2]; exact start_ok l hal⟩ ⟨rfl, trivial⟩ rfl ?_
  rintro ⟨k, u⟩ ⟨hk, hu, hS⟩
  dsimp only at hk hu hS ⊢
  repeat (first | refine gG ?_ | refine zN1 (fun hlen => ?_) | refine zN2 (fun hlen => ?_) | refine zAl (fun _ => ?_) | refine zBx (fun _ => ?_))
  refine x_cond rfl (fun h => ?_) (fun h => ?_)
  · have hk' : k < ds.length := by simpa using h
    obtain ⟨d, hdk⟩ := nth hk'
    clear h
    repeat (first | refine gG ?_ | refine zN1 (fun hlen => ?_) | refine zN2 (fun hlen => ?_) | refine zAl (fun _ => ?_) | refine zBx (fun _ => ?_))
    refine zIx k hk' ?_
    repeat (first | refine gG ?_ | refine zN1 (fun hlen => ?_) | refine zN2 (fun hlen => ?_) | refine zAl (fun _ => ?_) | refine zBx (fun _ => ?_))
    refine zEl (dd_at hdk) rfl ?_
    repeat (first | refine gG ?_ | refine zN1 (fun hlen => ?_) | refine zN2 (fun hlen => ?_) | refine zAl (fun _ => ?_) | refine zBx (fun _ => ?_))
    refine zAlE (fun _ => ?_)
    repeat (first | refine gG ?_ | refine zN1 (fun hlen => ?_) | refine zN2 (fun hlen => ?_) | refine zAl (fun _ => ?_) | refine zBx (fun _ => ?_))
    refine zStE rfl ?_
    repeat (first | refine gO ?_ | refine ac_seq ?_ | refine ac_block ?_)
    refine x_frz0 10 (ddTs d) ?_
    repeat (first | refine gG ?_ | refine zN1 (fun hlen => ?_) | refine zN2 (fun hlen => ?_) | refine zAl (fun _ => ?_) | refine zBx (fun _ => ?_))
    refine lo_frame (allB x u) [reB b6] (List.Perm.refl _) (fun F' => ?_)
    refine zCallAll (do_ag x u d (by omega) hS) (List.Perm.refl _) ?_
    rintro _ _ ⟨w', hz, hq⟩
    refine ⟨_, re_refl, ?_⟩
    refine al_wk (wk_perm (hq.append_right _)) ?_
    have hS' := step_ok (by omega) hS d
    rw [← hz] at hS'
    repeat (first | refine gG ?_ | refine zN1 (fun hlen => ?_) | refine zN2 (fun hlen => ?_) | refine zAl (fun _ => ?_) | refine zBx (fun _ => ?_))
    exact ⟨(k + 1, w'), ⟨hk', by rw [hz, hu, fold_snocD hdk, hx1], hS'⟩, by dsimp only; omega, x_wk ⟨rfl, trivial⟩ rfl (by repeat (first | exact ag_refl | refine ag_upd rfl ?_ | refine ag_at rfl rfl ?_))⟩
  have hk' : k = ds.length := by have : ¬ k < ds.length := by simpa using h
                                 omega
  subst hk'
  clear h
  rw [List.take_length] at hu
  repeat (first | refine gG ?_ | refine zN1 (fun hlen => ?_) | refine zN2 (fun hlen => ?_) | refine zAl (fun _ => ?_) | refine zBx (fun _ => ?_))
  refine ac_draw [1, 1, 1, 1, 1, 1, 1, 1, 1, 3, 2] [0, 1, 2, 3, 4, 5, 6, 7, 8, 9, 10] (by kernel_rfl) (by kernel_rfl) ?_
  refine gW ?_
  apply w_a; (focus exact rfl); (focus exact rfl); refine zAlE (fun _ => ⟨⟨_, rfl⟩, ?_⟩)
  apply w_l; (focus exact rfl); (focus exact rfl); (refine zStE rfl ?_)
  refine w_nil ?_
  rename_i bo
  obtain ⟨T, hT⟩ : ∃ T : List Blk, T = u.ways.map wayR ++ (u.wait.map elR ++ (u.got.map goR ++ ((keysE x.nA x.nd).map (inR x u.nxt) ++ (keysE x.nA x.nd).map (stR x u.sto)))) := ⟨_, rfl⟩
  refine x_perm (hp' := hdB x u ++ (obB bo x 0 0 :: (T ++ [reB b6]))) (by subst hT; exact (List.Perm.of_eq (congrArg (List.cons _) (List.append_assoc _ _ _))).trans List.perm_middle.symm) ?_
  refine x_reptr 11 8 rfl ?_
  repeat (first | refine gG ?_ | refine zN1 (fun hlen => ?_) | refine zN2 (fun hlen => ?_) | refine zAl (fun _ => ?_) | refine zBx (fun _ => ?_))
  refine lo_hint 9 (zRgS 128 129 (fun b' st c hsl => ⟨_, b', 0, rfl, ?_⟩))
  repeat (first | refine gO ?_ | refine ac_seq ?_ | refine ac_block ?_)
  refine x_perm (List.Perm.append_left [wB x, atB x u.at_, belB x u.bel, seqB x u.seqs, ibB x, .mpx x.bw (mkeys pI (mapT litV u.ways)) (some (st, c)), waB x u.wait, goB x u.got, obB bo x 0 0] (List.perm_append_comm (l₁ := T ++ [reB b6]) (l₂ := [.it b' x.bw st c []]))) ?_
  refine x_loop [13, 68, 69, 70, 71, 72, 73, 74, 75, 76, 77] (fun _ : List Nat => []) (fun P => [wB x, atB x u.at_, belB x u.bel, seqB x u.seqs, ibB x, .mpx x.bw (mkeys pI (mapT litV u.ways)) (some (st, c)), waB x u.wait, goB x u.got, obB bo x (sumF (wayN u.ways) P) 0, .it b' x.bw st c P] ++ (T ++ [reB b6])) (WalkQ u.ways.length) (fun P => u.ways.length - P.length) [] ⟨List.nodup_nil, fun _ h => by simp at h⟩ trivial rfl ?_
  intro P hP
  have hpl := walk_len hP.nd hP.lt
  have hel : (mkeys pI (mapT litV u.ways)).length = u.ways.length := by simp [mkeys, mapT]
  have hwy : sumW (bare u.ways) ≤ 802 * ds.length := hS.waysn
  repeat (first | refine gG ?_ | refine zN1 (fun hlen => ?_) | refine zN2 (fun hlen => ?_) | refine zAl (fun _ => ?_) | refine zBx (fun _ => ?_))
  refine lo_next (j := 5) rfl rfl rfl (fun hdn => ?_) (fun kk wv t he hn => ?_)
  rotate_left
  · obtain ⟨p, hp, rfl, rfl⟩ := entW he
    have hkk : kk < u.ways.length := (List.getElem?_eq_some_iff.1 hp).1
    obtain ⟨pk, pv, pl⟩ := p
    have hw := walk_snoc hP.nd hP.lt hkk hn
    have hwl := walk_len hw.1 hw.2
    rw [List.length_append] at hwl
    simp only [List.length_cons, List.length_nil] at hwl
    have hsn := sumF_snoc (wayN u.ways) P kk
    have hle := wayN_le hw.1 hw.2
    have hwk : wayN u.ways kk = pl.length := by unfold wayN; rw [hp]; rfl
    rw [hsn, hwk] at hle
    have hrow : (T ++ [reB b6])[kk]? = some (elR (pv, pl)) := by
      rw [hT, List.append_assoc, List.getElem?_append_left (by simpa using hkk), List.getElem?_map, hp]
      rfl
    clear hn
    repeat (first | refine gO ?_ | refine ac_seq ?_ | refine ac_block ?_ | refine zT ?_ | refine ac_skip ?_ | refine ac_region ?_)
    refine zEn 5 he ?_
    repeat (first | refine gG ?_ | refine zN1 (fun hlen => ?_) | refine zN2 (fun hlen => ?_) | refine zAl (fun _ => ?_) | refine zBx (fun _ => ?_))
    refine zLenL (kk + 10) hrow (fun _ => ?_)
    repeat (first | refine gG ?_ | refine zN1 (fun hlen => ?_) | refine zN2 (fun hlen => ?_) | refine zAl (fun _ => ?_) | refine zBx (fun _ => ?_))
    refine lo_add rfl rfl (r := ((sumF (wayN u.ways) P + pl.length : Nat) : Int)) (by show IntKind.wrap .i64 ((sumF (wayN u.ways) P : Int) + (pl.length : Int)) = _; rw [IntWalk.i64_in _ (by omega)]; omega) ?_
    repeat (first | refine gO ?_ | refine zF1 ?_)
    refine zStS ?_
    repeat (first | refine gG ?_ | refine zN1 (fun hlen => ?_) | refine zN2 (fun hlen => ?_) | refine zAl (fun _ => ?_) | refine zBx (fun _ => ?_))
    exact ⟨P ++ [kk], ⟨hw.1, hw.2⟩, by rw [List.length_append, List.length_singleton]; omega, x_wk trivial (by rw [hsn, hwk]; rfl) (by repeat (first | exact ag_refl | refine ag_upd rfl ?_ | refine ag_at rfl rfl ?_))⟩
  have hall := wayN_all hP.nd hP.lt (fun k hk => hdn k (by rw [hel]; exact hk))
  rw [hall]
  clear hP hpl hall
  repeat (first | refine gO ?_ | refine ac_seq ?_ | refine ac_block ?_ | refine zF ?_ | refine ac_exit ?_)
  refine x_unitS 5 ?_ rfl
  refine ac_wk (wk_forget (H := [wB x, atB x u.at_, belB x u.bel, seqB x u.seqs, ibB x, .mp x.bw (mkeys pI (mapT litV u.ways)), waB x u.wait, goB x u.got, obB bo x (sumW (bare u.ways)) 0]) (a := .it b' x.bw st c P) (L := T ++ [reB b6])) ?_
  generalize hwy2 : sumW (bare u.ways) = wy at *
  repeat (first | refine gG ?_ | refine zN1 (fun hlen => ?_) | refine zN2 (fun hlen => ?_) | refine zAl (fun _ => ?_) | refine zBx (fun _ => ?_))
  have hwn : sumL (u.wait.map (·.2)) ≤ ds.length := hS.waitn
  refine x_loop [15, 83, 84, 85, 86, 87, 88, 89, 90, 91, 92, 93] (fun k : Nat => [(83, .c (iL (k : Nat)))]) (fun k => hdB x u ++ (obB bo x wy (sumL ((u.wait.take k).map (·.2))) :: (T ++ [reB b6]))) (fun k => k ≤ u.wait.length) (fun k => u.wait.length - k) 0 (Nat.zero_le _) ⟨rfl, trivial⟩ rfl ?_
  intro k hk
  repeat (first | refine gG ?_ | refine zN1 (fun hlen => ?_) | refine zN2 (fun hlen => ?_) | refine zAl (fun _ => ?_) | refine zBx (fun _ => ?_))
  refine x_cond rfl (fun h => ?_) (fun h => ?_)
  · have hk' : k < u.wait.length := by simpa using h
    obtain ⟨⟨pv, pl⟩, hp⟩ := nth hk'
    have hrow : (hdB x u ++ (obB bo x wy (sumL ((u.wait.take k).map (·.2))) :: (T ++ [reB b6])))[u.ways.length + k + 9]? = some (elR (pv, pl)) := by
      show (T ++ [reB b6])[u.ways.length + k]? = _
      rw [hT, List.append_assoc, List.getElem?_append_right (by simp), List.append_assoc, List.getElem?_append_left (by simpa using hk'), List.length_map, Nat.add_sub_cancel_left, List.getElem?_map, hp]
      rfl
    have hsn : sumL ((u.wait.take (k + 1)).map (·.2)) = sumL ((u.wait.take k).map (·.2)) + pl.length := by
      obtain ⟨h1, h2⟩ := List.getElem?_eq_some_iff.1 hp
      rw [List.take_succ_eq_append_getElem h1, h2]
      simp [sumL]
    have hle : sumL ((u.wait.take (k + 1)).map (·.2)) ≤ sumL (u.wait.map (·.2)) := by
      have := sum_take_le ((u.wait.map (·.2)).map List.length) (k + 1)
      unfold sumL
      rw [List.map_take, List.map_take]
      exact this
    rw [hsn] at hle
    clear h
    repeat (first | refine gG ?_ | refine zN1 (fun hlen => ?_) | refine zN2 (fun hlen => ?_) | refine zAl (fun _ => ?_) | refine zBx (fun _ => ?_))
    refine zIxo k hk' ?_
    repeat (first | refine gG ?_ | refine zN1 (fun hlen => ?_) | refine zN2 (fun hlen => ?_) | refine zAl (fun _ => ?_) | refine zBx (fun _ => ?_))
    refine zElo1 (litL_at hp) ?_
    repeat (first | refine gG ?_ | refine zN1 (fun hlen => ?_) | refine zN2 (fun hlen => ?_) | refine zAl (fun _ => ?_) | refine zBx (fun _ => ?_))
    refine zLenL (u.ways.length + k + 9) hrow (fun _ => ?_)
    repeat (first | refine gG ?_ | refine zN1 (fun hlen => ?_) | refine zN2 (fun hlen => ?_) | refine zAl (fun _ => ?_) | refine zBx (fun _ => ?_))
    refine lo_add rfl rfl (r := ((sumL ((u.wait.take k).map (·.2)) + pl.length : Nat) : Int)) (by show IntKind.wrap .i64 ((sumL ((u.wait.take k).map (·.2)) : Int) + (pl.length : Int)) = _; rw [IntWalk.i64_in _ (by omega)]; omega) ?_
    repeat (first | refine gO ?_ | refine zF1 ?_)
    refine zStS ?_
    repeat (first | refine gG ?_ | refine zN1 (fun hlen => ?_) | refine zN2 (fun hlen => ?_) | refine zAl (fun _ => ?_) | refine zBx (fun _ => ?_))
    exact ⟨k + 1, hk', by omega, x_wk ⟨rfl, trivial⟩ (by rw [hsn]; rfl) (by repeat (first | exact ag_refl | refine ag_upd rfl ?_ | refine ag_at rfl rfl ?_))⟩
  have hk' : k = u.wait.length := by have : ¬ k < u.wait.length := by simpa using h
                                     omega
  subst hk'
  clear h
  rw [List.take_length]
  repeat (first | refine gG ?_ | refine zN1 (fun hlen => ?_) | refine zN2 (fun hlen => ?_) | refine zAl (fun _ => ?_) | refine zBx (fun _ => ?_))
  refine lo_hint 9 (zRgS 131 132 (fun b' st c hsl => ⟨_, b', 0, rfl, ?_⟩))
  generalize hsw : sumL (u.wait.map (·.2)) = sw at *
  have hxa : x.nA ≤ 5 := by omega
  have hxd : x.nd ≤ 8 := by omega
  obtain ⟨ks, hks⟩ : ∃ ks, ks = keysE x.nA x.nd := ⟨_, rfl⟩
  have hkl : ks.length ≤ 40 := by
    rw [hks, keysE_len]
    exact Nat.mul_le_mul hxa hxd
  have hso : ∀ k, stoN ks u.sto k ≤ 401 * ds.length := fun k => by
    unfold stoN
    cases ks[k]? with
    | none => simp
    | some key => exact hS.sto key.1 key.2
  repeat (first | refine gO ?_ | refine ac_seq ?_ | refine ac_block ?_)
  refine x_perm (List.Perm.append_left [wB x, atB x u.at_, belB x u.bel, seqB x u.seqs, .mpx x.bi (mkeys pI (tabK (ibT x.ib) (keysE x.nA x.nd))) (some (st, c)), wayB x u.ways, waB x u.wait, goB x u.got, obB bo x wy sw] (List.perm_append_comm (l₁ := T ++ [reB b6]) (l₂ := [.it b' x.bi st c []]))) ?_
  refine x_loop [17, 99, 100, 101, 102, 103, 104, 105, 106, 107, 108, 109, 110, 111] (fun _ : List Nat => []) (fun P => [wB x, atB x u.at_, belB x u.bel, seqB x u.seqs, .mpx x.bi (mkeys pI (tabK (ibT x.ib) (keysE x.nA x.nd))) (some (st, c)), wayB x u.ways, waB x u.wait, goB x u.got, obB bo x wy (sw + sumF (stoN ks u.sto) P), .it b' x.bi st c P] ++ (T ++ [reB b6])) (WalkQ ks.length) (fun P => ks.length - P.length) [] ⟨List.nodup_nil, fun _ h => by simp at h⟩ trivial rfl ?_
  intro P hP
  have hpl := walk_len hP.nd hP.lt
  have hel : (mkeys pI (tabK (ibT x.ib) (keysE x.nA x.nd))).length = ks.length := by rw [hks]; simp [mkeys, tabK]
  repeat (first | refine gG ?_ | refine zN1 (fun hlen => ?_) | refine zN2 (fun hlen => ?_) | refine zAl (fun _ => ?_) | refine zBx (fun _ => ?_))
  refine lo_next (j := 4) rfl rfl rfl (fun hdn => ?_) (fun kk wv t he hn => ?_)
  rotate_left
  · obtain ⟨key, hp, rfl, rfl⟩ := entI he
    rw [← hks] at hp
    have hkk : kk < ks.length := (List.getElem?_eq_some_iff.1 hp).1
    have hw := walk_snoc hP.nd hP.lt hkk hn
    have hwl := walk_len hw.1 hw.2
    have hsn := sumF_snoc (stoN ks u.sto) P kk
    have hle := sumF_bound hso (P ++ [kk])
    have hwk : stoN ks u.sto kk = (u.sto key.1 key.2).length := by unfold stoN; rw [hp]; rfl
    rw [hsn, hwk] at hle
    have hle2 : 401 * ds.length * (P ++ [kk]).length ≤ 401 * 400 * 40 := Nat.mul_le_mul (by omega) (by omega)
    rw [List.length_append] at hwl
    simp only [List.length_cons, List.length_nil] at hwl
    have hT2 : ∀ r : List Blk, (T ++ [reB b6] ++ r)[u.ways.length + (u.wait.length + (u.got.length + kk))]? = some (inR x u.nxt key) := fun r => by
      rw [hT, ← hks]
      simp only [List.append_assoc]
      rw [List.getElem?_append_right (by simp), List.length_map, Nat.add_sub_cancel_left, List.getElem?_append_right (by simp), List.length_map, Nat.add_sub_cancel_left, List.getElem?_append_right (by simp), List.length_map, Nat.add_sub_cancel_left, List.getElem?_append_left (by simpa using hkk), List.getElem?_map, hp]
      rfl
    have hT3 : ∀ r : List Blk, (T ++ [reB b6] ++ r)[u.ways.length + (u.wait.length + (u.got.length + (ks.length + kk)))]? = some (stR x u.sto key) := fun r => by
      rw [hT, ← hks]
      simp only [List.append_assoc]
      rw [List.getElem?_append_right (by simp), List.length_map, Nat.add_sub_cancel_left, List.getElem?_append_right (by simp), List.length_map, Nat.add_sub_cancel_left, List.getElem?_append_right (by simp), List.length_map, Nat.add_sub_cancel_left, List.getElem?_append_right (by simp), List.length_map, Nat.add_sub_cancel_left, List.getElem?_append_left (by simpa using hkk), List.getElem?_map, hp]
      rfl
    clear hn
    repeat (first | refine gO ?_ | refine ac_seq ?_ | refine ac_block ?_ | refine zT ?_ | refine ac_skip ?_ | refine ac_region ?_)
    refine zEn 4 he ?_
    repeat (first | refine gO ?_ | refine ac_seq ?_ | refine ac_block ?_)
    refine x_as 17 (.ptr (u.ways.length + (u.wait.length + (u.got.length + kk)) + 10) (x.ib key).1 0) (fun M u h => re_lp M u h) ?_
    refine ac_draw [1, 1, 1, 1, 1, 1, 1, 1, 1, 2] [0, 1, 2, 3, 4, 5, 6, 7, 8, 9] (by kernel_rfl) (by kernel_rfl) ?_
    refine gW ?_
    apply w_q; (focus exact rfl); (focus exact rfl); focus (intro _; (refine lo_hintO (u.ways.length + (u.wait.length + (u.got.length + (ks.length + kk))) + 10) (lo_load_box1 tok rfl (hT2 _) rfl rfl rfl ⟨_, _, rfl, ?_⟩)); exact det_refl)
    apply w_q; (focus exact rfl); (focus exact rfl); focus (intro _; (refine lo_mapLen (isMap_eq (kT := 3) (eT := 3) (by kernel_rfl)) rfl (hT3 _) ?_); exact det_refl)
    apply w_q; (focus exact rfl); (focus exact rfl); focus (intro _; (refine lo_add rfl rfl (r := ((sw + sumF (stoN ks u.sto) P + (u.sto key.1 key.2).length : Nat) : Int)) (by show IntKind.wrap .i64 (((sw + sumF (stoN ks u.sto) P : Nat) : Int) + ((mapT iL (u.sto key.1 key.2)).length : Int)) = _; rw [mapT_len, IntWalk.i64_in _ (by omega)]; omega) ?_); exact det_refl)
    refine gW ?_
    apply w_l; (focus exact rfl); (focus exact rfl); (refine zStS ?_)
    refine w_nil ?_
    repeat (first | refine gG ?_ | refine zN1 (fun hlen => ?_) | refine zN2 (fun hlen => ?_) | refine zAl (fun _ => ?_) | refine zBx (fun _ => ?_))
    exact ⟨P ++ [kk], ⟨hw.1, hw.2⟩, by rw [List.length_append, List.length_singleton]; omega, x_wk trivial (by rw [hsn, hwk, ← Nat.add_assoc]; rfl) (by repeat (first | exact ag_refl | refine ag_upd rfl ?_ | refine ag_at rfl rfl ?_))⟩
  have hall : sumF (stoN ks u.sto) P = sumS x.nA x.nd u.sto := by
    have := sumF_all (fun key : Int × Int => (u.sto key.1 key.2).length) hP.nd hP.lt (fun k hk => hdn k (by rw [hel]; exact hk))
    unfold sumS
    rw [← hks]
    exact this
  rw [hall]
  clear hP hpl hall
  repeat (first | refine gO ?_ | refine ac_seq ?_ | refine ac_block ?_ | refine zF ?_ | refine ac_exit ?_)
  refine x_unitS 4 ?_ rfl
  refine ac_wk (wk_forget (H := [wB x, atB x u.at_, belB x u.bel, seqB x u.seqs, ibB x, wayB x u.ways, waB x u.wait, goB x u.got, obB bo x wy (sw + sumS x.nA x.nd u.sto)]) (a := .it b' x.bi st c P) (L := T ++ [reB b6])) ?_
  refine x_perm (hp' := (goB x u.got :: (u.got.map goR ++ [atB x u.at_, obB bo x wy (sw + sumS x.nA x.nd u.sto), reB b6])) ++ ([wB x, belB x u.bel, seqB x u.seqs, ibB x, wayB x u.ways, waB x u.wait] ++ (u.ways.map wayR ++ (u.wait.map elR ++ ((keysE x.nA x.nd).map (inR x u.nxt) ++ (keysE x.nA x.nd).map (stR x u.sto)))))) (by
    rw [hT]
    have := perm_parts [[wB x], [atB x u.at_], [belB x u.bel, seqB x u.seqs, ibB x, wayB x u.ways, waB x u.wait], [goB x u.got], [obB bo x wy (sw + sumS x.nA x.nd u.sto)], u.ways.map wayR, u.wait.map elR, u.got.map goR, (keysE x.nA x.nd).map (inR x u.nxt), (keysE x.nA x.nd).map (stR x u.sto), [reB b6]] [3, 7, 1, 4, 10, 0, 2, 5, 6, 8, 9] (show List.Perm _ (List.range 11) by decide)
    simpa using this) ?_
  refine ac_wk (wk_drop (goB x u.got :: (u.got.map goR ++ [atB x u.at_, obB bo x wy (sw + sumS x.nA x.nd u.sto), reB b6])).length) ?_
  dsimp only
  rw [List.take_left]
  refine ac_wk (wk_shutF (vg := x.vg) (e := 71) (e' := 73) (n := u.got.length) (sz := 2) (fun l : List (Int × Int) => l.length) (fun l => l.flatMap goTs) u.got [] [atB x u.at_, obB bo x wy (sw + sumS x.nA x.nd u.sto), reB b6]) ?_
  refine x_eq (hp' := [.row x.vg 71 1 u.got.length (u.got.map fun q => gotT q.2), atB x u.at_, obB bo x wy (sw + sumS x.nA x.nd u.sto), reB b6]) rfl ?_
  refine x_boxR 2 [.own 0 x.vg, .own 1 x.va, .c (iL wy), .c (iL (sw + sumS x.nA x.nd u.sto : Nat))] ?_
  refine x_reptr 11 2 rfl ?_
  refine x_reptr 6 3 rfl ?_
  repeat (first | refine gG ?_ | refine zN1 (fun hlen => ?_) | refine zN2 (fun hlen => ?_) | refine zAl (fun _ => ?_) | refine zBx (fun _ => ?_))
  have hres : toldT l.length nd (ds.foldl (fun Z d => doZ nd d Z) (startZ nd l)) = .agg [.row u.got.length 1 (u.got.map fun q => gotT q.2), intRow u.at_, iL wy, iL (sw + sumS x.nA x.nd u.sto : Nat)] := by
    rw [← hu, ← hx1, ← hx2]
    simp only [toldT, Ws.z, List.length_map, List.map_map, hwy2, hsw]
    rfl
  rw [hres]
  first | refine zR ?_ | refine zQ ?_
  rfl
end Go.Proofs.Ytdogdjcjmhogmaa
namespace Go.Proofs.Ytdogdjcjmhogmaa
open Go.RowKit
@[reducible] def thTs (x : El) : List T := [iL (x.kind + 1), iL x.who, iL x.src, iL x.seq, iL x.n, iL x.node, iL x.turn]
/-- where the variables that the closures hold lie: where, got, next, early, sure, waits, ways, put -/
structure Gx where
  ba : Nat
  bg : Nat
  bn : Nat
  be : Nat
  bs : Nat
  bw : Nat
  by_ : Nat
  bp : Nat
  my : Nat
  nd : Nat
  nA : Nat
  va : Value
  vg : Value
  vn : Value
  ve : Value
  vs : Value
  vw : Value
  sv : Nat → Value
  mn : Nat → Nat
  me : Nat → Nat
structure Rs where
  at_ : List Int
  bel : Int → Int → Int × Int
  nxt : Nat → List (Int × Int)
  ear : Nat → List ((Int × Int) × Int)
  ways : List ((Int × Int) × (Value × List El))
  wait : List (Value × List El)
  got : List (Value × List (Int × Int))
@[reducible] def thR (p : Value × List El) : Blk := .row p.1 145 7 p.2.length (p.2.flatMap thTs)
def rwayR (p : (Int × Int) × (Value × List El)) : Blk := thR p.2
def belL (nA : Nat) (f : Int → Int → Int × Int) (i : Nat) : List (Int × Int) := (List.range nA).map fun w : Nat => f (i : Int) (w : Int)
@[reducible] def suR (x : Gx) (f : Int → Int → Int × Int) (i : Nat) : Blk := .row (x.sv i) 143 2 x.nA ((belL x.nA f i).flatMap goTs)
@[reducible] def nxR (x : Gx) (f : Nat → List (Int × Int)) (w : Nat) : Blk := .mp (x.mn w) (mkeys (Value.int .i64) (mapT iL (f w)))
@[reducible] def eaR (x : Gx) (f : Nat → List ((Int × Int) × Int)) (w : Nat) : Blk := .mp (x.me w) (mkeys pI (mapT iL (f w)))
@[reducible] def rH (x : Gx) (w : Rs) : List Blk :=
  [.box x.ba 22 [.own 8 x.va], .box x.bg 64 [.own 9 x.vg], .box x.bn 135 [.own 10 x.vn], .box x.be 136 [.own 11 x.ve],
   .box x.bs 137 [.own 12 x.vs], .box x.bw 139 [.own 13 x.vw], .box x.by_ 140 [.own 14 (.map (some x.my))], .box x.bp 147 [.fn (.func 53) [.ptr 6 x.by_ 0]],
   .row x.va 3 1 w.at_.length (w.at_.flatMap intTs), .row x.vg 71 1 w.got.length (litL w.got), .row x.vn 115 1 x.nA ((List.range x.nA).map fun j => .lit (.map (some (x.mn j)))), .row x.ve 138 1 x.nA ((List.range x.nA).map fun j => .lit (.map (some (x.me j)))),
   .row x.vs 141 1 (x.nd + 1) ((List.range (x.nd + 1)).map fun i => .lit (x.sv i)), .row x.vw 146 1 w.wait.length (litL w.wait), .mp x.my (mkeys pI (mapT litV w.ways))]
/-- all blocks of the reference's world -/
@[reducible] def rB (x : Gx) (w : Rs) : List Blk := rH x w ++ (w.ways.map rwayR ++ (w.wait.map thR ++ (w.got.map goR ++ ((List.range x.nA).map (nxR x w.nxt) ++ ((List.range x.nA).map (eaR x w.ear) ++ (List.range (x.nd + 1)).map (suR x w.bel))))))
theorem rway_new (k : Int × Int) (v : Value) (l : List El) (W : List ((Int × Int) × (Value × List El))) : W.map rwayR ++ [thR (v, l)] = (W ++ [(k, (v, l))]).map rwayR := by simp [rwayR]
theorem rway_set (k : Int × Int) (v : Value) (l : List El) (W : List ((Int × Int) × (Value × List El))) (j : Nat) : (W.map rwayR).set j (thR (v, l)) = (W.set j (k, (v, l))).map rwayR := by rw [List.map_set]; rfl
theorem th_snoc (l : List El) (x : El) : l.flatMap thTs ++ thTs x = (l ++ [x]).flatMap thTs := by rw [List.flatMap_append]; simp
theorem rh_tail {x : Gx} {w : Rs} {L L' : List Blk} (h : L = L') : rH x w ++ L = rH x w ++ L' := by rw [h]
set_option maxRecDepth 100000 in
set_option maxHeartbeats 4000000 in
theorem put_ag (x : Gx) (w : Rs) (a c : Int) (y : El) (hb : (wayL (a, c) w.ways).length ≤ 1000000) : AG Try.prog 53 [.c (iL a), .c (iL c), .c (.agg (thTs y)), .ptr 6 x.by_ 0] (rH x w ++ w.ways.map rwayR) (fun _ hs => ∃ v', hs = rH x { w with ways := gput (a, c) (v', wayL (a, c) w.ways ++ [y]) w.ways } ++ (gput (a, c) (v', wayL (a, c) w.ways ++ [y]) w.ways).map rwayR) := by
  unfold wayL at hb ⊢
  obtain ⟨at_, bel, nxt, ear, W, wait, got⟩ := w
  dsimp only at hb ⊢
  have hgT := mget_T litV (a, c) W
  have hpT := fun b => mput_T litV (a, c) b W
  rcases gcase (a, c) W with ⟨h1, h2⟩ | ⟨j, ⟨v, l⟩, h1, h2, h3⟩
  · rw [h1] at hgT ⊢
    have hlk : (mget (a, c) (mapT litV W)).getD (.lit (.slice none 0 0)) = .lit (.slice none 0 0) := by rw [hgT]; rfl
    have hpt : ∀ v', mput (a, c) (.lit v') (mapT litV W) = mapT litV (W ++ [((a, c), (v', [y]))]) := fun v' => by
      have := hpT (v', [y])
      rw [h2] at this
      exact this
    simp only [Option.map_none, Option.getD_none, List.nil_append, h2]
    clear hgT hpT h1 h2 hb
    refine ag_enter (15 + (W.length + 1)) tok Try.func53 Try.ntmps53 Try.results53 rfl (by kernel_rfl) rfl fun F => ?_
    repeat (first | refine gG ?_ | refine zBf ?_ | refine zAp (fun _ => ?_))
    refine ac_drawT [3, 0, 0, 0, 1, 1, 1, 1, 1, 1, 1, 2, 2] (.fork [1, 2, 3, 4, 5, 6, 7, 8, 9, 10] 0 (.fin [11, 12]) 11 (.fin [0, 12])) (by kernel_rfl) (by kernel_rfl) ?_
    refine wt_fork ?_
    refine gW ?_
    apply w_p; (focus exact rfl); (focus exact rfl); focus (intro _; (refine zBda ?_); exact det_refl)
    refine gW ?_
    apply w_q; (focus exact rfl); (focus exact rfl); focus (intro _; (refine zBda ?_); exact det_refl)
    apply w_q; (focus exact rfl); (focus exact rfl); focus (intro _; (refine zLkr 146 keyWay (a, c) hlk ?_); exact det_refl)
    refine gW ?_
    refine w_nil ?_
    refine ⟨?_, ?_⟩
    · apply w_a; (focus exact rfl); (focus exact rfl); refine zL1 ⟨⟨[], (List.append_nil _).symm⟩, ?_⟩
      refine w_nil ?_
      refine wt_fin ?_
      apply w_l; (focus exact rfl); (focus exact rfl); (refine zApN (fun v' => ?_))
      apply w_l; (focus exact rfl); (focus exact rfl); (refine zUprS 146 keyWay (a, c) (hpt _) ?_)
      refine w_nil ?_
      refine zGS ?_ ⟨v', rfl⟩
      refine (List.take_of_length_le (by simp; omega)).trans ?_
      exact rh_tail (x := x) (w := ⟨at_, bel, nxt, ear, W ++ [((a, c), (v', [y]))], wait, got⟩) (rway_new (a, c) v' [y] W)
          
    · apply w_l; (focus exact rfl); (focus exact rfl); (refine zApN (fun v' => ?_))
      refine w_nil ?_
      refine wt_fin ?_
      apply w_a; (focus exact rfl); (focus exact rfl); refine zL1 ⟨⟨[], (List.append_nil _).symm⟩, ?_⟩
      apply w_l; (focus exact rfl); (focus exact rfl); (refine zUprS 146 keyWay (a, c) (hpt _) ?_)
      refine w_nil ?_
      refine zGS ?_ ⟨v', rfl⟩
      refine (List.take_of_length_le (by simp; omega)).trans ?_
      exact rh_tail (x := x) (w := ⟨at_, bel, nxt, ear, W ++ [((a, c), (v', [y]))], wait, got⟩) (rway_new (a, c) v' [y] W)
          
  · rw [h1] at hgT ⊢
    have hlk : (mget (a, c) (mapT litV W)).getD (.lit (.slice none 0 0)) = .lit v := by rw [hgT]; rfl
    have hpt : ∀ v', mput (a, c) (.lit v') (mapT litV W) = mapT litV (W.set j ((a, c), (v', l ++ [y]))) := fun v' => by
      have := hpT (v', l ++ [y])
      rw [h3] at this
      exact this
    simp only [Option.map_some, Option.getD_some, h3]
    rw [h1] at hb
    dsimp only [Option.map_some, Option.getD_some] at hb
    have hjl : j < W.length := (List.getElem?_eq_some_iff.1 h2).1
    have hrow : ∀ r, (rH x ⟨at_, bel, nxt, ear, W, wait, got⟩ ++ W.map rwayR ++ r)[j + 15]? = some (thR (v, l)) := fun r => by
      show (W.map rwayR ++ r)[j]? = _
      rw [List.getElem?_append_left (by simpa using hjl), List.getElem?_map, h2]
      rfl
    have hrow0 : (rH x ⟨at_, bel, nxt, ear, W, wait, got⟩ ++ W.map rwayR)[j + 15]? = some (thR (v, l)) := by simpa using hrow []
    clear hgT hpT h1 h2
    refine ag_enter (15 + W.length) tok Try.func53 Try.ntmps53 Try.results53 rfl (by kernel_rfl) rfl fun F => ?_
    repeat (first | refine gG ?_ | refine zBf ?_ | refine zAp (fun _ => ?_))
    refine ac_drawT [3, 0, 0, 0, 1, 1, 1, 1, 1, 1, 1, 2, 2] (.fork [1, 2, 3, 4, 5, 6, 7, 8, 9, 10] 0 (.fin [11, 12]) 11 (.fin [0, 12])) (by kernel_rfl) (by kernel_rfl) ?_
    refine wt_fork ?_
    refine gW ?_
    apply w_p; (focus exact rfl); (focus exact rfl); focus (intro _; (refine zBda ?_); exact det_refl)
    refine gW ?_
    apply w_q; (focus exact rfl); (focus exact rfl); focus (intro _; (refine zBda ?_); exact det_refl)
    apply w_q; (focus exact rfl); (focus exact rfl); focus (intro _; (refine lo_as (j + 15) (zLkr 146 keyWay (a, c) hlk ⟨_, _, _, _, _, rfl, hrow _, ?_⟩)); exact det_refl)
    refine gW ?_
    refine w_nil ?_
    refine ⟨?_, ?_⟩
    · apply w_a; (focus exact rfl); (focus exact rfl); refine zL1 ⟨⟨[], (List.append_nil _).symm⟩, ?_⟩
      refine w_nil ?_
      refine wt_fin ?_
      apply w_l; (focus exact rfl); (focus exact rfl); (refine zApS (fun v' => ?_) tok rfl hrow0)
      apply w_l; (focus exact rfl); (focus exact rfl); (refine zUprS 146 keyWay (a, c) (hpt _) ?_)
      refine w_nil ?_
      refine zGS ?_ ⟨v', rfl⟩
      refine (List.take_of_length_le (by simp; omega)).trans ?_
      refine Eq.trans ?_ (rh_tail (x := x) (w := ⟨at_, bel, nxt, ear, W.set j ((a, c), (v', l ++ [y])), wait, got⟩) (rway_set (a, c) v' (l ++ [y]) W j))
      rw [thR, ← th_snoc, List.length_append]
      rfl
          
    · apply w_l; (focus exact rfl); (focus exact rfl); (refine zApS (fun v' => ?_) tok rfl hrow0)
      refine w_nil ?_
      refine wt_fin ?_
      apply w_a; (focus exact rfl); (focus exact rfl); refine zL1 ⟨⟨[], (List.append_nil _).symm⟩, ?_⟩
      apply w_l; (focus exact rfl); (focus exact rfl); (refine zUprS 146 keyWay (a, c) (hpt _) ?_)
      refine w_nil ?_
      refine zGS ?_ ⟨v', rfl⟩
      refine (List.take_of_length_le (by simp; omega)).trans ?_
      refine Eq.trans ?_ (rh_tail (x := x) (w := ⟨at_, bel, nxt, ear, W.set j ((a, c), (v', l ++ [y])), wait, got⟩) (rway_set (a, c) v' (l ++ [y]) W j))
      rw [thR, ← th_snoc, List.length_append]
      rfl
end Go.Proofs.Ytdogdjcjmhogmaa
namespace Go.Proofs.Ytdogdjcjmhogmaa
open Go.RowKit
def filt (f : Int) (E : List ((Int × Int) × Int)) : List (Int × Int) := E.filterMap fun e => if e.1.1 = f then some (e.1.2, e.2) else none
theorem filt_cons (f : Int) (e : (Int × Int) × Int) (E : List ((Int × Int) × Int)) : filt f (e :: E) = if e.1.1 = f then (e.1.2, e.2) :: filt f E else filt f E := by
  unfold filt
  rw [List.filterMap_cons]
  split <;> split <;> simp_all
theorem filt_get (f q : Int) : ∀ E : List ((Int × Int) × Int), gget (f, q) E = gget q (filt f E)
  | [] => rfl
  | ((f', q'), n) :: E => by
    rw [filt_cons]
    have ih := filt_get f q E
    by_cases hf : f' = f
    · subst hf
      rw [if_pos rfl]
      unfold gget
      by_cases hq : q = q' <;> simp [hq, ih]
    · dsimp only
      rw [if_neg hf, ← ih]
      have : ¬ ((f, q) = (f', q')) := fun e => hf (Prod.mk.inj e).1.symm
      conv => lhs; unfold gget
      rw [if_neg this]
theorem filt_put (f g q n : Int) : ∀ E : List ((Int × Int) × Int), filt g (gput (f, q) n E) = if g = f then gput q n (filt g E) else filt g E
  | [] => by
    show filt g [((f, q), n)] = _
    rw [filt_cons]
    by_cases h : g = f
    · subst h; simp [filt, gput]
    · rw [if_neg (fun e => h e.symm), if_neg h]
  | ((f', q'), m) :: E => by
    have ih := filt_put f g q n E
    conv => lhs; unfold gput
    by_cases hk : (f, q) = (f', q')
    · obtain ⟨rfl, rfl⟩ := Prod.mk.inj hk
      rw [if_pos rfl, filt_cons, filt_cons]
      by_cases h : g = f
      · subst h; simp [gput]
      · have h' : ¬ f = g := fun e => h e.symm
        simp [h, h']
    · rw [if_neg hk, filt_cons, filt_cons, ih]
      dsimp only
      by_cases hg : f' = g
      · subst hg
        rw [if_pos rfl, if_pos rfl]
        by_cases h : f' = f
        · subst h
          rw [if_pos rfl, if_pos rfl]
          have hq : ¬ q = q' := fun e => hk (by rw [e])
          conv => rhs; unfold gput
          rw [if_neg hq]
        · rw [if_neg h, if_neg h]
      · rw [if_neg hg, if_neg hg]
theorem filt_del (f g q : Int) : ∀ E : List ((Int × Int) × Int), filt g (gdel (f, q) E) = if g = f then gdel q (filt g E) else filt g E
  | [] => by
    show filt g [] = _
    split <;> rfl
  | ((f', q'), m) :: E => by
    have ih := filt_del f g q E
    conv => lhs; unfold gdel
    by_cases hk : (f, q) = (f', q')
    · obtain ⟨rfl, rfl⟩ := Prod.mk.inj hk
      rw [if_pos rfl, filt_cons]
      by_cases h : g = f
      · subst h; simp [gdel]
      · have h' : ¬ f = g := fun e => h e.symm
        simp [h, h']
    · rw [if_neg hk, filt_cons, filt_cons, ih]
      dsimp only
      by_cases hg : f' = g
      · subst hg
        rw [if_pos rfl, if_pos rfl]
        by_cases h : f' = f
        · subst h
          rw [if_pos rfl, if_pos rfl]
          have hq : ¬ q = q' := fun e => hk (by rw [e])
          conv => rhs; unfold gdel
          rw [if_neg hq]
        · rw [if_neg h, if_neg h]
      · rw [if_neg hg, if_neg hg]
/-- all that came early came from some node -/
theorem filt_sum {nd : Nat} : ∀ {E : List ((Int × Int) × Int)}, (∀ e ∈ E, isN nd e.1.1) → E.length = ((List.range nd).map fun i => (filt ((i + 1 : Nat) : Int) E).length).sum
  | [], _ => by
    induction nd with
    | zero => rfl
    | succ n ih => rw [List.range_succ, List.map_append, List.sum_append, ← ih (fun e he => by cases he)]; rfl
  | e :: E, h => by
    have ih := filt_sum (E := E) fun e he => h e (List.mem_cons_of_mem _ he)
    have he := h e List.mem_cons_self
    have key : ∀ n : Nat, ((List.range n).map fun i => (filt ((i + 1 : Nat) : Int) (e :: E)).length).sum = ((List.range n).map fun i => (filt ((i + 1 : Nat) : Int) E).length).sum + if e.1.1 ≤ n ∧ 1 ≤ e.1.1 then 1 else 0 := by
      intro n
      induction n with
      | zero =>
        rw [if_neg (by omega)]
        rfl
      | succ n ihn =>
        rw [List.range_succ, List.map_append, List.map_append, List.sum_append, List.sum_append, ihn, List.map_singleton, List.map_singleton, List.sum_singleton, List.sum_singleton, filt_cons]
        by_cases h1 : e.1.1 = ((n + 1 : Nat) : Int)
        · rw [if_pos h1, List.length_cons, if_neg (by omega), if_pos (by omega)]
          omega
        · rw [if_neg h1]
          by_cases h2 : e.1.1 ≤ n ∧ 1 ≤ e.1.1
          · rw [if_pos h2, if_pos (by omega)]; omega
          · rw [if_neg h2, if_neg (by omega)]; omega
    rw [key nd, ← ih, if_pos (by unfold isN at he; omega), List.length_cons]
/-- the reference's world stands asq the machine does -/
structure Rel (x : Gx) (w : Rs) (Z : Zt) : Prop where
  at_ : w.at_ = Z.at_
  bel : w.bel = Z.bel
  ways : bare w.ways = Z.ways
  wait : w.wait.map (·.2) = Z.wait
  got : w.got.map (·.2) = Z.got
  nxt : ∀ (f : Int) (j : Nat), (gget f (w.nxt j)).getD 0 = Z.nxt f j
  ear : ∀ (f : Int) (j : Nat), filt f (w.ear j) = Z.sto f j
  src : ∀ (j : Nat), ∀ e ∈ w.ear j, isN x.nd e.1.1
def GaveR (x : Gx) (Z : Zt) (hs : List Blk) : Prop := ∃ w', Rel x w' Z ∧ hs.Perm (rB x w')
def lenR (x : Gx) (Z : Zt) : Nat := 15 + (Z.ways.length + (Z.wait.length + (Z.got.length + (x.nA + (x.nA + (x.nd + 1))))))
theorem lenR_all (x : Gx) (w : Rs) : (rB x w).length = 15 + (w.ways.length + (w.wait.length + (w.got.length + (x.nA + (x.nA + (x.nd + 1)))))) := by
  simp only [rB, rH, List.length_append, List.length_map, List.length_cons, List.length_nil, List.length_range]
theorem take_rB {x : Gx} {w : Rs} {Z : Zt} {l : List Blk} (h : Rel x w Z) (hl : l.Perm (rB x w)) : l.take (0 + lenR x Z) = l := by
  refine List.take_of_length_le ?_
  rw [hl.length_eq, lenR_all, lenR, ← h.ways, ← h.wait, ← h.got]
  simp [bare]
end Go.Proofs.Ytdogdjcjmhogmaa
