/-
  Texts of this proof, part 11: Wtn Wto Wtp.
-/
import Derived.Test.YtaoldigfefmamaaQTalkSays10
import Derived.Laws.IdiomRangeMap
import Derived.Lib.AppendStr
namespace Go.Proofs.Ytaoldigfefmamaa
open Go.RowKit
/-- a box that nothing writes any more becomes closed memory, also beside blocks that were handed in -/
theorem wk_frzq {F : Frm} {τ : Nat → AV} {hp : List Blk} {N : Nat} (s : Nat) (ts : List T) {i b off : Nat} {t : TypeId} {cs : List AV} {hp' : List Blk} (hs : τ s = .ptr i b off) (hi : hp[i]? = some (.box b t cs)) (hz : Rzs [] cs ts) (hf : evl (hp.set i .dead) = some hp') (hN : Nat.blt s N = true) : Wk F ⟨τ, hp, N⟩ ⟨upd N s (.c (.pin ts off)) τ, hp', N⟩ := by
  intro M a w hr
  have h1 := heap_frzG hr.heap hi
  rw [← evl_eq hf] at h1
  obtain ⟨xs, hh, hx, hone⟩ := hr.heap.at_ i _ hi
  have h2 : RT (frB M (Blk.box b t cs).blk w) (.pin ts off) (.pointer (some ⟨b, off, none⟩)) := by
    simp only [RT]
    refine ⟨⟨b, 0, none⟩, xs, by unfold Addr.add; split <;> simp_all, fun j x hj => ?_, RTs.mono (frB_sub _ _ _) _ _ (cls_sound cs ts xs hz hx)⟩
    have hadd : (⟨b, 0, none⟩ : Addr).add j = ⟨b, j, none⟩ := by unfold Addr.add; split <;> simp_all
    rw [hadd]
    have hn : M ⟨b, j, none⟩ = none := (hr.heap.out i _ b hi rfl).2 _ rfl
    have hc : w.cell? ⟨b, j, none⟩ = some x := by rw [cell_of_row _ b j _ _ _ hh]; simpa using hj
    simp [frB, hn, Blk.blk, hc, hone x (List.mem_of_getElem? hj)]
  refine ⟨_, fun k => ?_, hr.size, hr.defers, h1⟩
  simp only [upd]
  cases hc : Nat.beq k s with
  | false => simp only [Bool.false_and, cond_false]; exact RA.mono (frB_sub _ _ _) _ _ (hr.tmps k)
  | true =>
    have := Nat.eq_of_beq_eq_true hc
    subst this
    have h3 : RA M (τ k) (a.tmps.getD k undef) := hr.tmps k
    rw [hs] at h3
    simp only [RA] at h3
    rw [hN]
    simp only [Bool.and_self, cond_true, RA]
    rw [h3]; exact h2
theorem x_frzq {F : Frm} {P : Program} {Q : Exit → AS → Prop} {c : Code} {τ : Nat → AV} {hp : List Blk} {N : Nat} (s : Nat) (ts : List T) {i b off : Nat} {t : TypeId} {cs : List AV} {hp' : List Blk} (h : AC P F c Q ⟨upd N s (.c (.pin ts off)) τ, hp', N⟩) (hs : τ s = .ptr i b off := by exact rfl) (hi : hp[i]? = some (.box b t cs) := by exact rfl) (hz : Rzs [] cs ts := by repeat (first | exact rzs_nil | apply rzs_cons | exact rz_c | exact rz_nil rfl | apply rz_agg | exact rz_own rfl | apply rz_fn | exact rz_ptr rfl | apply rz_tup)) (hf : evl (hp.set i .dead) = some hp' := by exact rfl) (hN : Nat.blt s N = true := by exact rfl) : AC P F c Q ⟨τ, hp, N⟩ :=
  ac_wk (wk_frzq s ts hs hi hz hf hN) h
section
variable {P : Program} {F : Frm} {d : Option Tmp} {ty : TypeId} {pos : String} {aft : Array Edge} {g : Option (Nat × Bool)} {ρ : Operand → AV} {hp : List Blk} {K : AV → List Blk → Prop}
/-- a call that looks at the caller's own, and hands back a row of its own -/
theorem lo_peekG {f : FuncId} {y : Operand} {xs : List Operand} {ats : Array TypeId} {ts : List T} {R : AV → List Blk → Prop} {cap : List AV} {e : TypeId} {sz n : Nat} {cs : List T} (hc : AG P f (ts.map .c) [] R) (hy : ρ y = .fn (.func f) cap) (hx : Rz2s hp (xs.map ρ ++ cap) ts) (hR : ∀ r hs, R r hs → ∃ v, r = .own 0 v ∧ hs = [.row v e sz n cs]) (hfl : flatTs cs = true) (h : ∀ v, K (.own hp.length v) (hp ++ [.row v e sz n cs])) : LO P F ⟨d, .call { callee := .value y, args := xs.toArray, argTypes := ats }, ty, pos, aft, g⟩ ρ hp K := by
  refine ⟨fun M ev w he hh => ?_⟩
  obtain ⟨hE, hcall⟩ := hc
  have h1 := he y (by simp [Op.operands, Call.operands])
  rw [hy] at h1
  simp only [RA] at h1
  obtain ⟨us, hu, hcs⟩ := h1
  rw [run_call hE hu]
  have hargs := rz2s_sound hh (B := 0) (fun _ _ _ _ _ => Nat.zero_le _) _ _ _ hx ((ev_all xs (fun x hx => he x (by simp [Op.operands, Call.operands, hx]))).app hcs)
  have hH : HeapOk ⟨w, fun _ => False, frz M 0 w, hh.glob, fun _ _ h => h⟩ (frz M 0 w) [] w :=
    ⟨frz_ok hh.mem 0, Ext.refl _ _, ⟨rfl, rfl, rfl, Nat.le_refl _, fun _ _ _ => rfl⟩, fun i x hx => by simp at hx, fun i j x y b hx => by simp at hx, fun i x b hx => by simp at hx⟩
  refine (hcall _ _ w _ hH (RAs.ofT hargs)).mono ?_
  rintro e' w' ⟨u, r, hs', M', rfl, hr, _, hh2, hru⟩
  obtain ⟨v, rfl, rfl⟩ := hR r hs' hr
  obtain ⟨vs, ho, hrs, hone, h0⟩ := hh2.at_ 0 _ rfl
  refine ⟨u, rfl, M, _, _, h v, Ext.refl _ _, ?_, ?_⟩
  · refine push_row hh hh2.frm.os hh2.frm.tape hh2.frm.output hh2.frm.size (fun b hb => hh2.frm.block b hb (fun h => h)) (Ext.refl _ _) (fun p v h1 h2 => by rw [h2] at h1; cases h1) ⟨vs, ho, flats_any _ _ hfl hrs, hone, h0⟩ (fun b hb => ?_)
    obtain ⟨h3, _⟩ := hh2.out 0 _ b rfl hb
    have h4 : w.heap.size ≤ b := h3.resolve_left (fun h => h)
    refine ⟨h4, fun p hp => ?_⟩
    cases hm : M p with
    | none => rfl
    | some z =>
      have := World.block_lt_of_cell? w p (hh.mem p z hm).1
      omega
  · simp only [RA] at hru ⊢
    exact hru
theorem zPeekG {f : FuncId} {y : Operand} {xs : List Operand} {ats : Array TypeId} {ts : List T} {R : AV → List Blk → Prop} {cap : List AV} {e : TypeId} {sz n k : Nat} {cs : List T} {hp' : Value → List Blk} (hc : AG P f (ts.map .c) [] R) (hR : ∀ r hs, R r hs → ∃ v, r = .own 0 v ∧ hs = [.row v e sz n cs]) (hfl : flatTs cs = true) (h : ∀ v, K (.own k v) (hp' v)) (hy : ρ y = .fn (.func f) cap := by exact rfl) (hx : Rz2s hp (xs.map ρ ++ cap) ts := by repeat (first | exact rz2s_nil | apply rz2s_cons | apply rz2_fn | (apply rz2_ptr; (focus exact rfl)) | apply rz2_c | apply rz2_own | apply rz2_agg | exact rzs_nil | apply rzs_cons | exact rz_c | exact rz_nil rfl | apply rz_agg | exact rz_own rfl | apply rz_fn | exact rz_ptr rfl | apply rz_tup)) (hk : lenU hp = some k := by exact rfl) (hq : ∀ v, evl (hp ++ [.row v e sz n cs]) = some (hp' v) := by exact fun _ => rfl) : LO P F ⟨d, .call { callee := .value y, args := xs.toArray, argTypes := ats }, ty, pos, aft, g⟩ ρ hp K :=
  lo_peekG hc hy hx hR hfl fun v => by rw [← evl_eq (hq v), ← lenU_eq hk]; exact h v
end
theorem flat_n : ∀ l : List Int, flatTs (l.flatMap nTs) = true
  | [] => rfl
  | a :: l => by
    rw [List.flatMap_cons]
    show flatTs (.lit (.int .i64 a) :: l.flatMap nTs) = true
    rw [flatTs, flat_n l]; rfl
/-- what is known of a line at which two may meet -/
structure LineAt (n : Nt) (D : List Int) (i a b da db : Nat) (ra rb : List Dd) : Prop where
  ln : n.lines[i]? = some ⟨(a : Int), (b : Int)⟩
  ne : a ≠ b
  hra : n.who[a]? = some ra
  hrb : n.who[b]? = some rb
  hda : D[a]? = some (da : Int)
  hdb : D[b]? = some (db : Int)
  hla : da ≤ ra.length
  hlb : db ≤ rb.length
  rdy : rdyB n D i = match ra[da]?, rb[db]? with
      | some x, some y => decide (x.line = (i : Int)) && decide (y.line = (i : Int)) && meetB x y
      | _, _ => false
theorem line_at {n : Nt} (hok : NOk n) {D : List Int} (h : Far n.who D) {i : Nat} (hi : i < n.lines.length) : ∃ a b da db ra rb, LineAt n D i a b da db ra rb := by
  obtain ⟨l, hl⟩ := nth hi
  obtain ⟨l1, l2, l3, l4, l5⟩ := hok.ln hl
  obtain ⟨la, lb⟩ := l
  dsimp only at l1 l2 l3 l4 l5
  obtain ⟨a, rfl⟩ : ∃ a : Nat, la = (a : Int) := ⟨la.toNat, by omega⟩
  obtain ⟨b, rfl⟩ : ∃ b : Nat, lb = (b : Int) := ⟨lb.toNat, by omega⟩
  obtain ⟨ra, hra⟩ := nth (show a < n.who.length by omega)
  obtain ⟨rb, hrb⟩ := nth (show b < n.who.length by omega)
  obtain ⟨da, hda, hla⟩ := h.le hra
  obtain ⟨db, hdb, hlb⟩ := h.le hrb
  exact ⟨a, b, da, db, ra, rb, hl, by omega, hra, hrb, hda, hdb, hla, hlb, rdyB_at hl rfl rfl hra hrb hda hdb⟩
theorem LineAt.lt {n : Nt} {D : List Int} {i a b da db : Nat} {ra rb : List Dd} (h : LineAt n D i a b da db ra rb) (hr : rdyB n D i = true) : da < ra.length ∧ db < rb.length := by
  have h1 := h.rdy
  rw [hr] at h1
  cases ha : ra[da]? with
  | none => rw [ha] at h1; cases h1
  | some x =>
    cases hb : rb[db]? with
    | none => rw [ha, hb] at h1; cases h1
    | some y => exact ⟨(List.getElem?_eq_some_iff.1 ha).1, (List.getElem?_eq_some_iff.1 hb).1⟩
theorem LineAt.far {n : Nt} {D : List Int} {i a b da db : Nat} {ra rb : List Dd} (h : LineAt n D i a b da db ra rb) (hr : rdyB n D i = true) (hf : Far n.who D) : Far n.who ((D.set a ((da : Int) + 1)).set b ((db : Int) + 1)) := by
  obtain ⟨h1, h2⟩ := h.lt hr
  have hla : a < D.length := (List.getElem?_eq_some_iff.1 h.hda).1
  have hlb : b < D.length := (List.getElem?_eq_some_iff.1 h.hdb).1
  refine ⟨by simp [hf.len], fun {w r} hw => ?_⟩
  by_cases e1 : w = b
  · subst e1
    rw [h.hrb] at hw
    cases hw
    refine ⟨db + 1, ?_, by omega⟩
    rw [List.getElem?_set, if_pos rfl, if_pos (by rw [List.length_set]; exact hlb)]
    rfl
  · rw [List.getElem?_set, if_neg (Ne.symm e1)]
    by_cases e2 : w = a
    · subst e2
      rw [h.hra] at hw
      cases hw
      refine ⟨da + 1, ?_, by omega⟩
      rw [List.getElem?_set, if_pos rfl, if_pos hla]
      rfl
    · rw [List.getElem?_set, if_neg (Ne.symm e2)]
      exact hf.le hw
theorem LineAt.sum {n : Nt} {D : List Int} {i a b da db : Nat} {ra rb : List Dd} (h : LineAt n D i a b da db ra rb) : ((D.set a ((da : Int) + 1)).set b ((db : Int) + 1)).sum = D.sum + 2 := by
  have hb2 : (D.set a ((da : Int) + 1))[b]? = some (db : Int) := by rw [List.getElem?_set, if_neg h.ne]; exact h.hdb
  rw [sum_set hb2, sum_set h.hda]
  omega
theorem going_step {n : Nt} (hok : NOk n) {ps0 D ps ch : List Int} (h : Going n ps0 D ps ch) (hr : ¬ (rdyL n D).length = 0) : ∃ (k i a b da db : Nat) (ra rb : List Dd), kOf ps (rdyL n D).length = (k : Int) ∧ k < (rdyL n D).length ∧ (rdyL n D)[k]? = some (i : Int) ∧ i < n.lines.length ∧ LineAt n D i a b da db ra rb ∧ da < ra.length ∧ db < rb.length ∧ Going n ps0 ((D.set a ((da : Int) + 1)).set b ((db : Int) + 1)) (ps.drop 1) (ch ++ [(i : Int)]) := by
  have hL : (rdyL n D).length ≤ 12 := Nat.le_trans (rdyTo_len n D _) hok.ln12
  obtain ⟨k1, k2⟩ := kOf_lt (ps := ps) (show 0 < (rdyL n D).length by omega) hL
  obtain ⟨k, hk⟩ : ∃ k : Nat, kOf ps (rdyL n D).length = (k : Int) := ⟨(kOf ps (rdyL n D).length).toNat, by omega⟩
  have hkl : k < (rdyL n D).length := by omega
  obtain ⟨z, hz⟩ := nth hkl
  obtain ⟨i, rfl, hi, hrd⟩ := rdyL_at hz
  obtain ⟨a, b, da, db, ra, rb, hA⟩ := line_at hok h.far hi
  obtain ⟨h1, h2⟩ := hA.lt hrd
  have hch : chosenI n D ps = (i : Int) := by
    unfold chosenI
    rw [hk, Int.toNat_natCast, atI_eq hz]
  refine ⟨k, i, a, b, da, db, ra, rb, hk, hkl, hz, hi, hA, h1, h2, hA.far hrd h.far, ?_, ?_⟩
  · rw [hA.sum, h.sum, List.length_append, List.length_singleton]
    push_cast
    omega
  · have hl := h.len hok
    obtain ⟨f, hf⟩ : ∃ f, 161 - ch.length = f + 1 := ⟨160 - ch.length, by omega⟩
    rw [h.eq, hf, runS, if_neg hr, hch, lnAt_eq hA.ln]
    rw [show 161 - (ch ++ [(i : Int)]).length = f by rw [List.length_append, List.length_singleton]; omega]
    congr 1
    unfold bump
    dsimp only
    rw [Int.toNat_natCast, Int.toNat_natCast, atI_eq hA.hda, atI_eq hA.hdb]
set_option maxRecDepth 100000 in
set_option maxHeartbeats 8000000 in
theorem ready_ag (n : Nt) (hok : NOk n) (D : List Int) (hD : Far n.who D) : AG Try.prog 26 ([n.t, nRow D].map .c) []
    (fun r hs => ∃ v', r = .own 0 v' ∧ hs = [.row v' 3 1 (rdyL n D).length ((rdyL n D).flatMap nTs)]) := by
  have hla := fun i hi => @line_at n hok D hD i hi
  have hyes := @rdyTo_yes n D
  have hno := @rdyTo_no n D
  have hrl := rdyTo_len n D
  have h0 : rdyTo n D 0 = [] := rfl
  have h12 := hok.ln12
  unfold rdyL
  clear hok
  generalize rdyTo n D = rT at *
  obtain ⟨ls, ws⟩ := n
  dsimp only at *
  refine ag_enter 1 tok Try.func26 Try.ntmps26 Try.results26 rfl (by kernel_rfl) rfl fun F => ?_
  repeat (first | refine gG ?_ | refine zN1 (fun hlen => ?_) | refine zN2 (fun hlen => ?_) | refine zAl (fun _ => ?_) | refine zBf ?_ | refine zAp (fun _ => ?_))
  refine x_own 5 3 1 rfl rfl rfl rfl rfl ?_
  refine x_loop [5, 6, 7, 8, 9, 13, 14, 15, 16, 17, 18, 19, 20, 21, 22, 23, 24, 25, 26, 27, 28, 29, 30, 31, 32, 33, 34, 35, 36, 37, 38, 39, 40, 41, 42, 43, 44, 45, 46, 47, 48, 49, 50, 51, 52, 53, 54, 55, 56, 57, 58, 59, 60, 61, 62, 63, 64, 65, 66, 67, 68, 69, 70, 71, 72, 73, 74, 75, 76, 77, 78, 79, 80, 81, 82, 83, 84, 85, 86, 87, 88, 89, 90, 91] (fun y : Nat × Value => [(13, .c (.lit (.int .i64 (y.1 : Nat)))), (5, .own 0 y.2)]) (fun y => [.row y.2 3 1 (rT y.1).length ((rT y.1).flatMap nTs)]) (fun y => y.1 ≤ ls.length) (fun y => ls.length - y.1) (0, .slice none 0 0) (Nat.zero_le _) ⟨rfl, rfl, trivial⟩ (by simp only [h0]; rfl) ?_
  clear h0
  rintro ⟨k, vo⟩ hk
  dsimp only at hk ⊢
  have hlk := hrl k
  repeat (first | refine gG ?_ | refine zN1 (fun hlen => ?_) | refine zN2 (fun hlen => ?_) | refine zAl (fun _ => ?_) | refine zBf ?_ | refine zAp (fun _ => ?_))
  refine x_cond rfl (fun h => ?_) (fun h => ?_)
  rotate_left
  · have hk' : k = ls.length := Nat.le_antisymm hk (Nat.le_of_not_lt (by simpa using h))
    subst hk'
    repeat (first | refine gG ?_ | refine zN1 (fun hlen => ?_) | refine zN2 (fun hlen => ?_) | refine zAl (fun _ => ?_) | refine zBf ?_ | refine zAp (fun _ => ?_))
    refine zG ?_
    exact ⟨_, rfl, rfl⟩
  have hk' : k < ls.length := by simpa using h
  obtain ⟨a, b, da, db, ra, rb, hA⟩ := hla k hk'
  have hlt := flat_at Ln.ts 2 Ln.ts_len hA.ln
  have hwa := who_at hA.hra
  have hwb := who_at hA.hrb
  have hda := n_at hA.hda
  have hdb := n_at hA.hdb
  have hal : a < ws.length := (List.getElem?_eq_some_iff.1 hA.hra).1
  have hbl : b < ws.length := (List.getElem?_eq_some_iff.1 hA.hrb).1
  have haD : a < D.length := (List.getElem?_eq_some_iff.1 hA.hda).1
  have hbD : b < D.length := (List.getElem?_eq_some_iff.1 hA.hdb).1
  have hrd := hA.rdy
  have hly := @hyes k
  have hln := @hno k
  have hla1 := hA.hla
  have hlb1 := hA.hlb
  clear h hla hrl hA hyes hno hD
  by_cases c1 : da = ra.length
  · have e1 : decide (((da : Nat) : Int) = ((ra.length : Nat) : Int)) = true := decide_eq_true (by omega)
    rw [List.getElem?_eq_none (by omega)] at hrd
    have hn := hln hrd
    clear hly hln hrd
    repeat (first | refine gG ?_ | refine zN1 (fun hlen => ?_) | refine zN2 (fun hlen => ?_) | refine zAl (fun _ => ?_) | refine zBf ?_ | refine zAp (fun _ => ?_))
    refine zIx (k) (hk') ?_
    repeat (first | refine gG ?_ | refine zN1 (fun hlen => ?_) | refine zN2 (fun hlen => ?_) | refine zAl (fun _ => ?_) | refine zBx (fun _ => ?_) | refine zAp (fun _ => ?_))
    refine zEl (hlt) (Ln.ts_len _) ?_
    repeat (first | refine gG ?_ | refine zN1 (fun hlen => ?_) | refine zN2 (fun hlen => ?_) | refine zAl (fun _ => ?_) | refine zBf ?_ | refine zAp (fun _ => ?_))
    refine ac_drawB [0, 0, 2, 7, 15, 0, 32, 0, 128, 480, 992, 2016, 4095, 8191, 16383, 16383, 49151, 131071, 262143, 16383, 540671, 16383, 2113535, 7880703, 16269311, 33046527, 67108863, 134217727] [1, 1, 1, 1, 1, 1, 1, 1, 1, 1, 1, 1, 1, 1, 1, 1, 1, 1, 1, 1, 1, 1, 1, 1, 1, 1, 1, 1] [0, 1, 2, 3, 4, 5, 6, 7, 8, 9, 10, 11, 12, 13, 14, 15, 16, 17, 18, 19, 20, 21, 22, 23, 24, 25, 26, 27] (by kernel_rfl) (by kernel_rfl) ?_
    refine gW ?_
    apply w_q; (focus exact rfl); (focus exact rfl); focus (intro _; (refine zIx a haD ?_); exact det_refl)
    apply w_q; (focus exact rfl); (focus exact rfl); focus (intro _; (refine zEl1 hda ?_); exact det_refl)
    refine gW ?_
    apply w_q; (focus exact rfl); (focus exact rfl); focus (intro _; (refine zIx a hal ?_); exact det_refl)
    apply w_q; (focus exact rfl); (focus exact rfl); focus (intro _; (refine zEl1 hwa ?_); exact det_refl)
    refine gW ?_
    refine w_nil ?_
    repeat (first | refine gG ?_ | refine zN1 (fun hlen => ?_) | refine zN2 (fun hlen => ?_) | refine zAl (fun _ => ?_) | refine zBf ?_ | refine zAp (fun _ => ?_))
    exact ⟨(k + 1, vo), hk', by simp only; omega, x_wkd 1 ⟨rfl, rfl, trivial⟩ (by simp only [hn]; rfl) (by repeat (first | exact ag_refl | refine ag_upd rfl ?_ | refine ag_at rfl rfl ?_))⟩
  have e1 : decide (((da : Nat) : Int) = ((ra.length : Nat) : Int)) = false := decide_eq_false (by omega)
  by_cases c2 : db = rb.length
  · have e2 : decide (((db : Nat) : Int) = ((rb.length : Nat) : Int)) = true := decide_eq_true (by omega)
    have hn := hln (by rw [hrd, List.getElem?_eq_none (l := rb) (by omega)]; cases ra[da]? <;> rfl)
    clear hly hln hrd
    repeat (first | refine gG ?_ | refine zN1 (fun hlen => ?_) | refine zN2 (fun hlen => ?_) | refine zAl (fun _ => ?_) | refine zBf ?_ | refine zAp (fun _ => ?_))
    refine zIx (k) (hk') ?_
    repeat (first | refine gG ?_ | refine zN1 (fun hlen => ?_) | refine zN2 (fun hlen => ?_) | refine zAl (fun _ => ?_) | refine zBx (fun _ => ?_) | refine zAp (fun _ => ?_))
    refine zEl (hlt) (Ln.ts_len _) ?_
    repeat (first | refine gG ?_ | refine zN1 (fun hlen => ?_) | refine zN2 (fun hlen => ?_) | refine zAl (fun _ => ?_) | refine zBf ?_ | refine zAp (fun _ => ?_))
    refine ac_drawB [0, 0, 2, 7, 15, 0, 32, 0, 128, 480, 992, 2016, 4095, 8191, 16383, 16383, 49151, 131071, 262143, 16383, 540671, 16383, 2113535, 7880703, 16269311, 33046527, 67108863, 134217727] [1, 1, 1, 1, 1, 1, 1, 1, 1, 1, 1, 1, 1, 1, 1, 1, 1, 1, 1, 1, 1, 1, 1, 1, 1, 1, 1, 1] [0, 1, 2, 3, 4, 5, 6, 7, 8, 9, 10, 11, 12, 13, 14, 15, 16, 17, 18, 19, 20, 21, 22, 23, 24, 25, 26, 27] (by kernel_rfl) (by kernel_rfl) ?_
    refine gW ?_
    apply w_q; (focus exact rfl); (focus exact rfl); focus (intro _; (refine zIx a haD ?_); exact det_refl)
    apply w_q; (focus exact rfl); (focus exact rfl); focus (intro _; (refine zEl1 hda ?_); exact det_refl)
    refine gW ?_
    apply w_q; (focus exact rfl); (focus exact rfl); focus (intro _; (refine zIx a hal ?_); exact det_refl)
    apply w_q; (focus exact rfl); (focus exact rfl); focus (intro _; (refine zEl1 hwa ?_); exact det_refl)
    refine gW ?_
    try (first | (apply w_un; (focus exact rfl); (focus exact rfl); (focus exact rfl); (focus exact rfl)) | (apply w_no; (focus exact rfl); (focus exact rfl); (focus exact rfl); (focus exact rfl); focus (first | rfl | assumption | exact neg_t (by assumption) | exact neg_f (by assumption))) | (apply w_qg; (focus exact rfl); (focus exact rfl); (focus exact rfl); (focus exact rfl); (focus (first | rfl | assumption | exact neg_t (by assumption) | exact neg_f (by assumption))); (focus (intro _; (refine zIx b hbD ?_); exact det_refl))))
    (first | (apply w_un; (focus exact rfl); (focus exact rfl); (focus exact rfl); (focus exact rfl)) | (apply w_no; (focus exact rfl); (focus exact rfl); (focus exact rfl); (focus exact rfl); focus (first | rfl | assumption | exact neg_t (by assumption) | exact neg_f (by assumption))) | (apply w_qg; (focus exact rfl); (focus exact rfl); (focus exact rfl); (focus exact rfl); (focus (first | rfl | assumption | exact neg_t (by assumption) | exact neg_f (by assumption))); (focus (intro _; (refine zEl1 hdb ?_); exact det_refl))))
    try refine gW ?_
    try (first | (apply w_un; (focus exact rfl); (focus exact rfl); (focus exact rfl); (focus exact rfl)) | (apply w_no; (focus exact rfl); (focus exact rfl); (focus exact rfl); (focus exact rfl); focus (first | rfl | assumption | exact neg_t (by assumption) | exact neg_f (by assumption))) | (apply w_qg; (focus exact rfl); (focus exact rfl); (focus exact rfl); (focus exact rfl); (focus (first | rfl | assumption | exact neg_t (by assumption) | exact neg_f (by assumption))); (focus (intro _; (refine zIx b hbl ?_); exact det_refl))))
    (first | (apply w_un; (focus exact rfl); (focus exact rfl); (focus exact rfl); (focus exact rfl)) | (apply w_no; (focus exact rfl); (focus exact rfl); (focus exact rfl); (focus exact rfl); focus (first | rfl | assumption | exact neg_t (by assumption) | exact neg_f (by assumption))) | (apply w_qg; (focus exact rfl); (focus exact rfl); (focus exact rfl); (focus exact rfl); (focus (first | rfl | assumption | exact neg_t (by assumption) | exact neg_f (by assumption))); (focus (intro _; (refine zEl1 hwb ?_); exact det_refl))))
    try refine gW ?_
    refine w_nil ?_
    repeat (first | refine gG ?_ | refine zN1 (fun hlen => ?_) | refine zN2 (fun hlen => ?_) | refine zAl (fun _ => ?_) | refine zBf ?_ | refine zAp (fun _ => ?_))
    exact ⟨(k + 1, vo), hk', by simp only; omega, x_wkd 1 ⟨rfl, rfl, trivial⟩ (by simp only [hn]; rfl) (by repeat (first | exact ag_refl | refine ag_upd rfl ?_ | refine ag_at rfl rfl ?_))⟩
  have e2 : decide (((db : Nat) : Int) = ((rb.length : Nat) : Int)) = false := decide_eq_false (by omega)
  have hdal : da < ra.length := by omega
  have hdbl : db < rb.length := by omega
  obtain ⟨x, hx⟩ := nth hdal
  obtain ⟨y, hy⟩ := nth hdbl
  rw [hx, hy] at hrd
  dsimp only at hrd
  have hxt := flat_at Dd.ts 3 Dd.ts_len hx
  have hyt := flat_at Dd.ts 3 Dd.ts_len hy
  have hm := meet_af x y
  clear c1 c2 hx hy
  obtain ⟨xl, xs, xm⟩ := x
  obtain ⟨yl, ys, ym⟩ := y
  dsimp only at hrd
  repeat (first | refine gG ?_ | refine zN1 (fun hlen => ?_) | refine zN2 (fun hlen => ?_) | refine zAl (fun _ => ?_) | refine zBf ?_ | refine zAp (fun _ => ?_))
  refine zIx (k) (hk') ?_
  repeat (first | refine gG ?_ | refine zN1 (fun hlen => ?_) | refine zN2 (fun hlen => ?_) | refine zAl (fun _ => ?_) | refine zBx (fun _ => ?_) | refine zAp (fun _ => ?_))
  refine zEl (hlt) (Ln.ts_len _) ?_
  repeat (first | refine gG ?_ | refine zN1 (fun hlen => ?_) | refine zN2 (fun hlen => ?_) | refine zAl (fun _ => ?_) | refine zBf ?_ | refine zAp (fun _ => ?_))
  refine ac_drawB [0, 0, 2, 7, 15, 0, 32, 0, 128, 480, 992, 2016, 4095, 8191, 16383, 16383, 49151, 131071, 262143, 16383, 540671, 16383, 2113535, 7880703, 16269311, 33046527, 67108863, 134217727] [1, 1, 1, 1, 1, 1, 1, 1, 1, 1, 1, 1, 1, 1, 1, 1, 1, 1, 1, 1, 1, 1, 1, 1, 1, 1, 1, 1] [0, 1, 2, 3, 4, 5, 6, 7, 8, 9, 10, 11, 12, 13, 14, 15, 16, 17, 18, 19, 20, 21, 22, 23, 24, 25, 26, 27] (by kernel_rfl) (by kernel_rfl) ?_
  refine gW ?_
  apply w_q; (focus exact rfl); (focus exact rfl); focus (intro _; (refine zIx a haD ?_); exact det_refl)
  apply w_q; (focus exact rfl); (focus exact rfl); focus (intro _; (refine zEl1 hda ?_); exact det_refl)
  refine gW ?_
  apply w_q; (focus exact rfl); (focus exact rfl); focus (intro _; (refine zIx a hal ?_); exact det_refl)
  apply w_q; (focus exact rfl); (focus exact rfl); focus (intro _; (refine zEl1 hwa ?_); exact det_refl)
  refine gW ?_
  try (first | (apply w_un; (focus exact rfl); (focus exact rfl); (focus exact rfl); (focus exact rfl)) | (apply w_no; (focus exact rfl); (focus exact rfl); (focus exact rfl); (focus exact rfl); focus (first | rfl | assumption | exact neg_t (by assumption) | exact neg_f (by assumption))) | (apply w_qg; (focus exact rfl); (focus exact rfl); (focus exact rfl); (focus exact rfl); (focus (first | rfl | assumption | exact neg_t (by assumption) | exact neg_f (by assumption))); (focus (intro _; (refine zIx b hbD ?_); exact det_refl))))
  (first | (apply w_un; (focus exact rfl); (focus exact rfl); (focus exact rfl); (focus exact rfl)) | (apply w_no; (focus exact rfl); (focus exact rfl); (focus exact rfl); (focus exact rfl); focus (first | rfl | assumption | exact neg_t (by assumption) | exact neg_f (by assumption))) | (apply w_qg; (focus exact rfl); (focus exact rfl); (focus exact rfl); (focus exact rfl); (focus (first | rfl | assumption | exact neg_t (by assumption) | exact neg_f (by assumption))); (focus (intro _; (refine zEl1 hdb ?_); exact det_refl))))
  try refine gW ?_
  try (first | (apply w_un; (focus exact rfl); (focus exact rfl); (focus exact rfl); (focus exact rfl)) | (apply w_no; (focus exact rfl); (focus exact rfl); (focus exact rfl); (focus exact rfl); focus (first | rfl | assumption | exact neg_t (by assumption) | exact neg_f (by assumption))) | (apply w_qg; (focus exact rfl); (focus exact rfl); (focus exact rfl); (focus exact rfl); (focus (first | rfl | assumption | exact neg_t (by assumption) | exact neg_f (by assumption))); (focus (intro _; (refine zIx b hbl ?_); exact det_refl))))
  (first | (apply w_un; (focus exact rfl); (focus exact rfl); (focus exact rfl); (focus exact rfl)) | (apply w_no; (focus exact rfl); (focus exact rfl); (focus exact rfl); (focus exact rfl); focus (first | rfl | assumption | exact neg_t (by assumption) | exact neg_f (by assumption))) | (apply w_qg; (focus exact rfl); (focus exact rfl); (focus exact rfl); (focus exact rfl); (focus (first | rfl | assumption | exact neg_t (by assumption) | exact neg_f (by assumption))); (focus (intro _; (refine zEl1 hwb ?_); exact det_refl))))
  try refine gW ?_
  refine w_nil ?_
  repeat (first | refine gG ?_ | refine zN1 (fun hlen => ?_) | refine zN2 (fun hlen => ?_) | refine zAl (fun _ => ?_) | refine zBf ?_ | refine zAp (fun _ => ?_))
  refine x_frzq 7 (Ln.ts ⟨(a : Int), (b : Int)⟩) ?_
  repeat (first | refine ac_seq ?_ | refine ac_block ?_)
  refine x_join [8, 9, 46, 47, 48, 49, 50, 51, 52, 53, 54, 55, 56, 57, 58, 59, 60, 61, 62, 63, 64, 65, 66, 67, 68, 69, 70, 71] (fun _ : Unit => [(8, .c (.pin (Dd.ts ⟨xl, xs, xm⟩) 0)), (9, .c (.pin (Dd.ts ⟨yl, ys, ym⟩) 0))]) (fun _ => [.row vo 3 1 (rT k).length ((rT k).flatMap nTs)]) ?_ ?_
  rotate_left
  · skip
    refine ac_drawT [1, 1, 1, 1, 1, 1, 1, 1, 1, 1, 1, 1, 1, 0, 0, 0, 0, 0, 0, 0, 0, 0, 0, 0, 0, 0, 3, 3, 2, 2] (.fork [0, 1, 2, 3, 4, 5, 6, 7, 8, 9, 10, 11, 12, 13, 14, 15, 16, 17, 18, 19, 20, 21, 22, 23, 24, 25] 26 (.fin [27, 28, 29]) 27 (.fin [26, 28, 29])) (by kernel_rfl) (by kernel_rfl) ?_
    refine wt_fork ?_
    refine gW ?_
    apply w_q; (focus exact rfl); (focus exact rfl); focus (intro _; (refine zIx a hal ?_); exact det_refl)
    apply w_q; (focus exact rfl); (focus exact rfl); focus (intro _; (refine zEl1 hwa ?_); exact det_refl)
    refine gW ?_
    apply w_q; (focus exact rfl); (focus exact rfl); focus (intro _; (refine zIx a haD ?_); exact det_refl)
    apply w_q; (focus exact rfl); (focus exact rfl); focus (intro _; (refine zEl1 hda ?_); exact det_refl)
    apply w_q; (focus exact rfl); (focus exact rfl); focus (intro _; (refine zIx da hdal ?_); exact det_refl)
    apply w_q; (focus exact rfl); (focus exact rfl); focus (intro _; (refine zEl hxt (Dd.ts_len _) ?_); exact det_refl)
    refine gW ?_
    apply w_p; (focus exact rfl); (focus exact rfl); focus (intro _; (refine zIx b hbl ?_); exact det_refl)
    apply w_p; (focus exact rfl); (focus exact rfl); focus (intro _; (refine zEl1 hwb ?_); exact det_refl)
    refine gW ?_
    apply w_p; (focus exact rfl); (focus exact rfl); focus (intro _; (refine zIx b hbD ?_); exact det_refl)
    apply w_p; (focus exact rfl); (focus exact rfl); focus (intro _; (refine zEl1 hdb ?_); exact det_refl)
    apply w_p; (focus exact rfl); (focus exact rfl); focus (intro _; (refine zIx db hdbl ?_); exact det_refl)
    apply w_p; (focus exact rfl); (focus exact rfl); focus (intro _; (refine zEl hyt (Dd.ts_len _) ?_); exact det_refl)
    refine w_nil ?_
    refine ⟨?_, ?_⟩
    · apply w_a; (focus exact rfl); (focus exact rfl); refine v_alloc tok rfl rfl rfl (fun _ => rfl) (fun _ => ⟨⟨_, rfl⟩, ?_⟩)
      refine w_nil ?_
      refine wt_fin ?_
      apply w_a; (focus exact rfl); (focus exact rfl); refine v_alloc tok rfl rfl rfl (fun _ => rfl) (fun _ => ⟨⟨_, rfl⟩, ?_⟩)
      apply w_l; (focus exact rfl); (focus exact rfl); (refine zS ?_)
      apply w_l; (focus exact rfl); (focus exact rfl); (refine zS ?_)
      refine w_nil ?_
      exact ⟨(), Wk.trans (wk_frzq 8 (Dd.ts ⟨xl, xs, xm⟩) rfl rfl (by repeat (first | exact rzs_nil | apply rzs_cons | exact rz_c | exact rz_nil rfl | apply rz_agg | exact rz_own rfl | apply rz_fn | exact rz_ptr rfl | apply rz_tup)) rfl rfl) (Wk.trans (wk_frzq 9 (Dd.ts ⟨yl, ys, ym⟩) rfl rfl (by repeat (first | exact rzs_nil | apply rzs_cons | exact rz_c | exact rz_nil rfl | apply rz_agg | exact rz_own rfl | apply rz_fn | exact rz_ptr rfl | apply rz_tup)) rfl rfl) (x_wkd 1 ⟨rfl, rfl, trivial⟩ rfl (by repeat (first | exact ag_refl | refine ag_upd rfl ?_ | refine ag_at rfl rfl ?_))))⟩
    · apply w_a; (focus exact rfl); (focus exact rfl); refine v_alloc tok rfl rfl rfl (fun _ => rfl) (fun _ => ⟨⟨_, rfl⟩, ?_⟩)
      refine w_nil ?_
      refine wt_fin ?_
      apply w_a; (focus exact rfl); (focus exact rfl); refine v_alloc tok rfl rfl rfl (fun _ => rfl) (fun _ => ⟨⟨_, rfl⟩, ?_⟩)
      apply w_l; (focus exact rfl); (focus exact rfl); (refine zS ?_)
      apply w_l; (focus exact rfl); (focus exact rfl); (refine zS ?_)
      refine w_nil ?_
      exact ⟨(), Wk.trans (wk_frzq 8 (Dd.ts ⟨xl, xs, xm⟩) rfl rfl (by repeat (first | exact rzs_nil | apply rzs_cons | exact rz_c | exact rz_nil rfl | apply rz_agg | exact rz_own rfl | apply rz_fn | exact rz_ptr rfl | apply rz_tup)) rfl rfl) (Wk.trans (wk_frzq 9 (Dd.ts ⟨yl, ys, ym⟩) rfl rfl (by repeat (first | exact rzs_nil | apply rzs_cons | exact rz_c | exact rz_nil rfl | apply rz_agg | exact rz_own rfl | apply rz_fn | exact rz_ptr rfl | apply rz_tup)) rfl rfl) (x_wkd 1 ⟨rfl, rfl, trivial⟩ rfl (by repeat (first | exact ag_refl | refine ag_upd rfl ?_ | refine ag_at rfl rfl ?_))))⟩
  rintro ⟨⟩
  clear hxt hyt hwa hwb hda hdb e1 e2 hlt
  cases d1 : decide (xl = ((k : Nat) : Int))
  · rw [d1] at hrd
    have hn := hln hrd
    repeat (first | refine gG ?_ | refine zN1 (fun hlen => ?_) | refine zN2 (fun hlen => ?_) | refine zAl (fun _ => ?_) | refine zBf ?_ | refine zAp (fun _ => ?_))
    exact ⟨(k + 1, vo), hk', by simp only; omega, x_wkd 1 ⟨rfl, rfl, trivial⟩ (by simp only [hn]; rfl) (by repeat (first | exact ag_refl | refine ag_upd rfl ?_ | refine ag_at rfl rfl ?_))⟩
  cases d2 : decide (yl = ((k : Nat) : Int))
  · rw [d1, d2] at hrd
    have hn := hln hrd
    repeat (first | refine gG ?_ | refine zN1 (fun hlen => ?_) | refine zN2 (fun hlen => ?_) | refine zAl (fun _ => ?_) | refine zBf ?_ | refine zAp (fun _ => ?_))
    exact ⟨(k + 1, vo), hk', by simp only; omega, x_wkd 1 ⟨rfl, rfl, trivial⟩ (by simp only [hn]; rfl) (by repeat (first | exact ag_refl | refine ag_upd rfl ?_ | refine ag_at rfl rfl ?_))⟩
  rw [d1, d2, Bool.true_and, Bool.true_and] at hrd
  generalize meetB ⟨xl, xs, xm⟩ ⟨yl, ys, ym⟩ = z at *
  cases z
  · have hn := hln hrd
    repeat (first | refine gG ?_ | refine zN1 (fun hlen => ?_) | refine zN2 (fun hlen => ?_) | refine zAl (fun _ => ?_) | refine zBf ?_ | refine zAp (fun _ => ?_))
    refine zCall (hm) ?_
    rintro _ rfl
    repeat (first | refine gG ?_ | refine zN1 (fun hlen => ?_) | refine zN2 (fun hlen => ?_) | refine zAl (fun _ => ?_) | refine zBf ?_ | refine zAp (fun _ => ?_))
    exact ⟨(k + 1, vo), hk', by simp only; omega, x_wkd 1 ⟨rfl, rfl, trivial⟩ (by simp only [hn]; rfl) (by repeat (first | exact ag_refl | refine ag_upd rfl ?_ | refine ag_at rfl rfl ?_))⟩
  · have hn := hly hrd
    repeat (first | refine gG ?_ | refine zN1 (fun hlen => ?_) | refine zN2 (fun hlen => ?_) | refine zAl (fun _ => ?_) | refine zBf ?_ | refine zAp (fun _ => ?_))
    refine zCall (hm) ?_
    rintro _ rfl
    repeat (first | refine gG ?_ | refine zN1 (fun hlen => ?_) | refine zN2 (fun hlen => ?_) | refine zAl (fun _ => ?_) | refine zBf ?_ | refine zAp (fun _ => ?_))
    exact ⟨(k + 1, _), hk', by simp only; omega, x_wkd 1 ⟨rfl, rfl, trivial⟩ (by simp only [hn, List.flatMap_append, List.length_append]; rfl) (by repeat (first | exact ag_refl | refine ag_upd rfl ?_ | refine ag_at rfl rfl ?_))⟩
end Go.Proofs.Ytaoldigfefmamaa
namespace Go.Proofs.Ytaoldigfefmamaa
open Go.RowKit
theorem zeros_flat (m : Nat) : (List.replicate m [T.lit (.int .i64 0)]).flatten = (zeros m).flatMap nTs := by
  unfold zeros
  rw [List.flatMap_replicate]
  rfl
theorem zeros_len (m : Nat) : (zeros m).length = m := by simp [zeros]
theorem kOf_nil (m : Nat) : kOf [] m = 0 := rfl
theorem kOf_cons (p : Int) (r : List Int) (m : Nat) : kOf (p :: r) m = IntKind.wrap .i64 (Int.tmod (IntKind.wrap .u64 p) (IntKind.wrap .u64 ((m : Nat) : Int))) := rfl
theorem u64_ne {m : Nat} (h0 : 0 < m) (h1 : m ≤ 12) : ¬ IntKind.wrap .u64 ((m : Nat) : Int) = 0 := by
  rw [IntWalk.u64_in _ (by omega)]
  omega
set_option maxRecDepth 100000 in
set_option maxHeartbeats 8000000 in
theorem run_af (n : Nt) (ps0 : List Int) : AF Try.prog 7 [n.t, nRow ps0] (· = .tup [nRow (if netE n = 0 then (runR n ps0).1 else []), nRow (if netE n = 0 then (runR n ps0).2 else []), .lit (.int .i64 (netE n))]) := by
  have hc := check_af n
  by_cases hz : netE n = 0
  rotate_left
  · rw [if_neg hz, if_neg hz]
    have d0 : decide (netE n = 0) = false := decide_eq_false hz
    generalize netE n = e at *
    obtain ⟨ls, ws⟩ := n
    refine af_enter tok Try.func7 Try.ntmps7 Try.results7 rfl (by kernel_rfl) rfl rfl fun F hX => ?_
    repeat (first | refine gG ?_ | refine zN1 (fun hlen => ?_) | refine zN2 (fun hlen => ?_) | refine zAl (fun _ => ?_) | refine zBf ?_ | refine zAp (fun _ => ?_))
    refine zCall (hc) ?_
    rintro _ rfl
    repeat (first | refine gG ?_ | refine zN1 (fun hlen => ?_) | refine zN2 (fun hlen => ?_) | refine zAl (fun _ => ?_) | refine zBf ?_ | refine zAp (fun _ => ?_))
    first | refine zR (ts := [nRow [], nRow [], .lit (.int .i64 e)]) ?_ | refine zQ (ts := [nRow [], nRow [], .lit (.int .i64 e)]) ?_
    rfl
  rw [if_pos hz, if_pos hz]
  have hok := netE_ok hz
  rw [hz] at hc ⊢
  have hrd := fun D hD => ready_ag n hok D hD
  have hrR : ∀ D r hs, (∃ v', r = AV.own 0 v' ∧ hs = [Blk.row v' 3 1 (rdyL n D).length ((rdyL n D).flatMap nTs)]) → ∃ v, r = .own 0 v ∧ hs = [.row v 3 1 (rdyL n D).length ((rdyL n D).flatMap nTs)] := fun _ _ _ h => h
  have hst := fun D ps ch h1 h2 => @going_step n hok ps0 D ps ch h1 h2
  have hen := fun D ps ch h1 h2 => @going_end n hok ps0 D ps ch h1 h2
  have hgl := fun D ps ch h1 => @Going.len n hok ps0 D ps ch h1
  have hG0 := going_start n ps0
  have hL12 : ∀ D, (rdyL n D).length ≤ 12 := fun D => Nat.le_trans (rdyTo_len n D _) hok.ln12
  have hz1 := zeros_flat n.who.length
  have hz2 := zeros_len n.who.length
  have h8 := hok.who8
  have h40 := fun w r => @NOk.dd40 n hok w r
  have hfl : ∀ l : List Int, flatTs (l.flatMap nTs) = true := flat_n
  have hF0 := far_zeros n.who
  generalize runR n ps0 = R at *
  generalize zeros n.who.length = z0 at *
  generalize rdyL n = rL at *
  obtain ⟨ls, ws⟩ := n
  clear hok hz
  dsimp only at *
  have hz3 : ((ws.length : Nat) : Int) = ((z0.length : Nat) : Int) := by omega
  rw [← hz2] at hz1
  refine af_enter tok Try.func7 Try.ntmps7 Try.results7 rfl (by kernel_rfl) rfl rfl fun F hX => ?_
  repeat (first | refine gG ?_ | refine zN1 (fun hlen => ?_) | refine zN2 (fun hlen => ?_) | refine zAl (fun _ => ?_) | refine zBf ?_ | refine zAp (fun _ => ?_))
  refine zCall (hc) ?_
  rintro _ rfl
  clear hc
  repeat (first | refine gG ?_ | refine zN1 (fun hlen => ?_) | refine zN2 (fun hlen => ?_) | refine zAl (fun _ => ?_) | refine zBf ?_ | refine zAp (fun _ => ?_))
  refine zMk z0.length [.lit (.int .i64 0)] (fun vD => ?_)
  rw [hz1]
  repeat (first | refine gO ?_ | refine zN1 (fun hlen => ?_) | refine zN2 (fun hlen => ?_) | refine zAl (fun _ => ?_) | refine zBf ?_ | refine zAp (fun _ => ?_))
  repeat (first | refine ac_seq ?_ | refine ac_block ?_ | refine ac_region ?_)
  repeat (first | refine gO ?_ | refine zN1 (fun hlen => ?_) | refine zN2 (fun hlen => ?_) | refine zAl (fun _ => ?_) | refine zBf ?_ | refine zAp (fun _ => ?_))
  refine x_own 9 3 1 rfl rfl rfl rfl rfl ?_
  repeat (first | refine gG ?_ | refine zN1 (fun hlen => ?_) | refine zN2 (fun hlen => ?_) | refine zAl (fun _ => ?_) | refine zBf ?_ | refine zAp (fun _ => ?_))
  refine zPeekG (hrd z0 hF0) (hrR z0) (hfl _) (fun vr => ?_)
  repeat (first | refine gG ?_ | refine zN1 (fun hlen => ?_) | refine zN2 (fun hlen => ?_) | refine zAl (fun _ => ?_) | refine zBf ?_ | refine zAp (fun _ => ?_))
  refine x_loop [1, 9, 10, 11, 12, 25, 26, 27, 28, 29, 30, 31, 32, 33, 34, 35, 36, 37, 38, 39, 40, 41, 42, 43, 44, 45, 46, 47, 48, 49, 50, 51, 52, 53, 54, 55, 56, 57, 58, 59, 60, 61, 62, 63, 64, 65, 66, 67, 68, 69, 70, 71, 72, 73] (fun y : List Int × List Int × List Int × Value × Value => [(9, .own 1 y.2.2.2.1), (10, .own 2 y.2.2.2.2), (1, .c (nRow y.2.1))]) (fun y => [.row vD 3 1 y.1.length (y.1.flatMap nTs), .row y.2.2.2.1 3 1 y.2.2.1.length (y.2.2.1.flatMap nTs), .row y.2.2.2.2 3 1 (rL y.1).length ((rL y.1).flatMap nTs)])
    (fun y => Going ⟨ls, ws⟩ ps0 y.1 y.2.1 y.2.2.1) (fun y => 161 - y.2.2.1.length) (z0, ps0, [], .slice none 0 0, vr) hG0 ⟨rfl, rfl, rfl, trivial⟩ rfl ?_
  clear hG0 hF0 hz1 hz2 hz3
  rintro ⟨D, ps, ch, vc, vl⟩ hG
  dsimp only at hG ⊢
  have hcl := hgl D ps ch hG
  have h12 := hL12 D
  by_cases h0 : (rL D).length = 0
  · have d0 : decide ((0 : Int) < (((rL D).length : Nat) : Int)) = false := decide_eq_false (by omega)
    rw [hen D ps ch hG h0]
    clear hen hst hgl hrd hrR hfl
    repeat (first | refine gG ?_ | refine zN1 (fun hlen => ?_) | refine zN2 (fun hlen => ?_) | refine zAl (fun _ => ?_) | refine zBf ?_ | refine zAp (fun _ => ?_))
    first | refine zR (ts := [nRow ch, nRow D, .lit (.int .i64 0)]) ?_ | refine zQ (ts := [nRow ch, nRow D, .lit (.int .i64 0)]) ?_
    rfl
  have d0 : decide ((0 : Int) < (((rL D).length : Nat) : Int)) = true := decide_eq_true (by omega)
  obtain ⟨k, i, a, b, da, db, ra, rb, hk, hkl, hkz, hil, hA, hda, hdb, hG2⟩ := hst D ps ch hG h0
  have hli := n_at hkz
  have hlt := flat_at Ln.ts 2 Ln.ts_len hA.ln
  have hda1 := n_at hA.hda
  have haD : a < D.length := (List.getElem?_eq_some_iff.1 hA.hda).1
  have hbD : b < D.length := (List.getElem?_eq_some_iff.1 hA.hdb).1
  have hdb0 : (D.set a ((da : Int) + 1))[b]? = some (db : Int) := by rw [List.getElem?_set, if_neg hA.ne]; exact hA.hdb
  have hdb1 := n_at hdb0
  have hs1 := spl_n D a ((da : Int) + 1)
  have hs2 := spl_n (D.set a ((da : Int) + 1)) b ((db : Int) + 1)
  have hb1 : a * 1 + 1 ≤ (D.flatMap nTs).length := by rw [len_flat nTs_len]; omega
  have hb2 : b * 1 + 1 ≤ ((D.set a ((da : Int) + 1)).flatMap nTs).length := by rw [len_flat nTs_len, List.length_set]; omega
  have hnext := hrd _ hG2.far
  have hnR := hrR ((D.set a ((da : Int) + 1)).set b ((db : Int) + 1))
  have hnf := hfl (rL ((D.set a ((da : Int) + 1)).set b ((db : Int) + 1)))
  have hD2 : ((D.set a ((da : Int) + 1)).set b ((db : Int) + 1)).length = D.length := by simp
  have hr40 : (da : Int) < 9223372036854775807 ∧ (db : Int) < 9223372036854775807 := by
    have := h40 _ _ hA.hra
    have := h40 _ _ hA.hrb
    omega
  clear hen hst hgl hrd hrR hfl hG hdb0 hkz hA h0 h40
  generalize hDD : (D.set a ((da : Int) + 1)).set b ((db : Int) + 1) = D2 at *
  generalize D.set a ((da : Int) + 1) = D1 at *
  clear hDD
  cases ps with
  | nil =>
    rw [kOf_nil] at hk
    obtain rfl : k = 0 := by omega
    repeat (first | refine gG ?_ | refine zN1 (fun hlen => ?_) | refine zN2 (fun hlen => ?_) | refine zAl (fun _ => ?_) | refine zBf ?_ | refine zAp (fun _ => ?_))
    refine ac_draw [1, 1, 1, 1, 1, 1, 1, 1, 3, 2] [0, 1, 2, 3, 4, 5, 6, 7, 8, 9] (by kernel_rfl) (by kernel_rfl) ?_
    refine gW ?_
    apply w_q; (focus exact rfl); (focus exact rfl); focus (intro _; (refine zIxo 0 hkl ?_); exact det_refl)
    apply w_q; (focus exact rfl); (focus exact rfl); focus (intro _; (refine zElo1 hli ?_); exact det_refl)
    apply w_q; (focus exact rfl); (focus exact rfl); focus (intro _; (refine zIx i hil ?_); exact det_refl)
    apply w_q; (focus exact rfl); (focus exact rfl); focus (intro _; (refine zEl hlt (Ln.ts_len _) ?_); exact det_refl)
    apply w_a; (focus exact rfl); (focus exact rfl); refine v_alloc tok rfl rfl rfl (fun _ => rfl) (fun _ => ⟨⟨_, rfl⟩, ?_⟩)
    apply w_l; (focus exact rfl); (focus exact rfl); (refine zS ?_)
    refine w_nil ?_
    repeat (first | refine gG ?_ | refine zN1 (fun hlen => ?_) | refine zN2 (fun hlen => ?_) | refine zAl (fun _ => ?_) | refine zBf ?_ | refine zAp (fun _ => ?_))
    refine zIxo a haD ?_
    repeat (first | refine gG ?_ | refine zN1 (fun hlen => ?_) | refine zN2 (fun hlen => ?_) | refine zAl (fun _ => ?_) | refine zBf ?_ | refine zAp (fun _ => ?_))
    refine zElo1 hda1 ?_
    repeat (first | refine gG ?_ | refine zN1 (fun hlen => ?_) | refine zN2 (fun hlen => ?_) | refine zAl (fun _ => ?_) | refine zBf ?_ | refine zAp (fun _ => ?_))
    refine zIxo a haD ?_
    repeat (first | refine gG ?_ | refine zN1 (fun hlen => ?_) | refine zN2 (fun hlen => ?_) | refine zAl (fun _ => ?_) | refine zBf ?_ | refine zAp (fun _ => ?_))
    refine zSe (us := [.lit (.int .i64 ((da : Int) + 1))]) hs1 hb1 ?_
    repeat (first | refine gG ?_ | refine zN1 (fun hlen => ?_) | refine zN2 (fun hlen => ?_) | refine zAl (fun _ => ?_) | refine zBf ?_ | refine zAp (fun _ => ?_))
    refine zIxo b hbD ?_
    repeat (first | refine gG ?_ | refine zN1 (fun hlen => ?_) | refine zN2 (fun hlen => ?_) | refine zAl (fun _ => ?_) | refine zBf ?_ | refine zAp (fun _ => ?_))
    refine zElo1 hdb1 ?_
    repeat (first | refine gG ?_ | refine zN1 (fun hlen => ?_) | refine zN2 (fun hlen => ?_) | refine zAl (fun _ => ?_) | refine zBf ?_ | refine zAp (fun _ => ?_))
    refine zIxo b hbD ?_
    repeat (first | refine gG ?_ | refine zN1 (fun hlen => ?_) | refine zN2 (fun hlen => ?_) | refine zAl (fun _ => ?_) | refine zBf ?_ | refine zAp (fun _ => ?_))
    refine zSe (us := [.lit (.int .i64 ((db : Int) + 1))]) hs2 hb2 ?_
    repeat (first | refine gG ?_ | refine zN1 (fun hlen => ?_) | refine zN2 (fun hlen => ?_) | refine zAl (fun _ => ?_) | refine zBf ?_ | refine zAp (fun _ => ?_))
    refine zIxo 0 hkl ?_
    repeat (first | refine gG ?_ | refine zN1 (fun hlen => ?_) | refine zN2 (fun hlen => ?_) | refine zAl (fun _ => ?_) | refine zBf ?_ | refine zAp (fun _ => ?_))
    refine zElo1 hli ?_
    repeat (first | refine gG ?_ | refine zN1 (fun hlen => ?_) | refine zN2 (fun hlen => ?_) | refine zAl (fun _ => ?_) | refine zBf ?_ | refine zAp (fun _ => ?_))
    rw [← hD2]
    refine zPeekG hnext hnR hnf (fun vr2 => ?_)
    repeat (first | refine gG ?_ | refine zN1 (fun hlen => ?_) | refine zN2 (fun hlen => ?_) | refine zAl (fun _ => ?_) | refine zBf ?_ | refine zAp (fun _ => ?_))
    exact ⟨(D2, [], ch ++ [(i : Int)], _, vr2), hG2, by simp only [List.length_append, List.length_singleton]; omega, Wk.trans (wk_pick [0, 1, 4] rfl rfl) (Wk.trans (wk_as 10 (.own 2 vr2) re_own) (x_wkd 3 ⟨rfl, rfl, rfl, trivial⟩ (by simp only [List.flatMap_append, List.length_append]; rfl) (by repeat (first | exact ag_refl | refine ag_upd rfl ?_ | refine ag_at rfl rfl ?_))))⟩
  | cons p r =>
    rw [kOf_cons] at hk
    have d1 : decide ((0 : Int) < (((p :: r).length : Nat) : Int)) = true := decide_eq_true (by simp only [List.length_cons]; omega)
    have hpl : 0 < (p :: r).length := by simp
    have hne := u64_ne (m := (rL D).length) (by omega) h12
    repeat (first | refine gG ?_ | refine zN1 (fun hlen => ?_) | refine zN2 (fun hlen => ?_) | refine zAl (fun _ => ?_) | refine zBf ?_ | refine zAp (fun _ => ?_))
    refine zIx 0 hpl ?_
    repeat (first | refine gG ?_ | refine zN1 (fun hlen => ?_) | refine zN2 (fun hlen => ?_) | refine zAl (fun _ => ?_) | refine zBf ?_ | refine zAp (fun _ => ?_))
    refine lo_conv tok rfl rfl rfl rfl (r := IntKind.wrap .u64 p) rfl ?_
    repeat (first | refine gG ?_ | refine zN1 (fun hlen => ?_) | refine zN2 (fun hlen => ?_) | refine zAl (fun _ => ?_) | refine zBf ?_ | refine zAp (fun _ => ?_))
    refine lo_conv tok rfl rfl rfl rfl (r := IntKind.wrap .u64 (((rL D).length : Nat) : Int)) rfl ?_
    repeat (first | refine gG ?_ | refine zN1 (fun hlen => ?_) | refine zN2 (fun hlen => ?_) | refine zAl (fun _ => ?_) | refine zBf ?_ | refine zAp (fun _ => ?_))
    refine lo_rem rfl rfl hne (r := Int.tmod (IntKind.wrap .u64 p) (IntKind.wrap .u64 (((rL D).length : Nat) : Int))) rfl ?_
    repeat (first | refine gG ?_ | refine zN1 (fun hlen => ?_) | refine zN2 (fun hlen => ?_) | refine zAl (fun _ => ?_) | refine zBf ?_ | refine zAp (fun _ => ?_))
    refine lo_conv tok rfl rfl rfl rfl (r := (k : Int)) hk ?_
    repeat (first | refine gG ?_ | refine zN1 (fun hlen => ?_) | refine zN2 (fun hlen => ?_) | refine zAl (fun _ => ?_) | refine zBf ?_ | refine zAp (fun _ => ?_))
    refine zPlf (f := nTs) (l := p :: r) 1 hpl nTs_len ?_
    repeat (first | refine gG ?_ | refine zN1 (fun hlen => ?_) | refine zN2 (fun hlen => ?_) | refine zAl (fun _ => ?_) | refine zBf ?_ | refine zAp (fun _ => ?_))
    refine ac_draw [1, 1, 1, 1, 1, 1, 1, 1, 3, 2] [0, 1, 2, 3, 4, 5, 6, 7, 8, 9] (by kernel_rfl) (by kernel_rfl) ?_
    refine gW ?_
    apply w_q; (focus exact rfl); (focus exact rfl); focus (intro _; (refine zIxo k hkl ?_); exact det_refl)
    apply w_q; (focus exact rfl); (focus exact rfl); focus (intro _; (refine zElo1 hli ?_); exact det_refl)
    apply w_q; (focus exact rfl); (focus exact rfl); focus (intro _; (refine zIx i hil ?_); exact det_refl)
    apply w_q; (focus exact rfl); (focus exact rfl); focus (intro _; (refine zEl hlt (Ln.ts_len _) ?_); exact det_refl)
    apply w_a; (focus exact rfl); (focus exact rfl); refine v_alloc tok rfl rfl rfl (fun _ => rfl) (fun _ => ⟨⟨_, rfl⟩, ?_⟩)
    apply w_l; (focus exact rfl); (focus exact rfl); (refine zS ?_)
    refine w_nil ?_
    repeat (first | refine gG ?_ | refine zN1 (fun hlen => ?_) | refine zN2 (fun hlen => ?_) | refine zAl (fun _ => ?_) | refine zBf ?_ | refine zAp (fun _ => ?_))
    refine zIxo a haD ?_
    repeat (first | refine gG ?_ | refine zN1 (fun hlen => ?_) | refine zN2 (fun hlen => ?_) | refine zAl (fun _ => ?_) | refine zBf ?_ | refine zAp (fun _ => ?_))
    refine zElo1 hda1 ?_
    repeat (first | refine gG ?_ | refine zN1 (fun hlen => ?_) | refine zN2 (fun hlen => ?_) | refine zAl (fun _ => ?_) | refine zBf ?_ | refine zAp (fun _ => ?_))
    refine zIxo a haD ?_
    repeat (first | refine gG ?_ | refine zN1 (fun hlen => ?_) | refine zN2 (fun hlen => ?_) | refine zAl (fun _ => ?_) | refine zBf ?_ | refine zAp (fun _ => ?_))
    refine zSe (us := [.lit (.int .i64 ((da : Int) + 1))]) hs1 hb1 ?_
    repeat (first | refine gG ?_ | refine zN1 (fun hlen => ?_) | refine zN2 (fun hlen => ?_) | refine zAl (fun _ => ?_) | refine zBf ?_ | refine zAp (fun _ => ?_))
    refine zIxo b hbD ?_
    repeat (first | refine gG ?_ | refine zN1 (fun hlen => ?_) | refine zN2 (fun hlen => ?_) | refine zAl (fun _ => ?_) | refine zBf ?_ | refine zAp (fun _ => ?_))
    refine zElo1 hdb1 ?_
    repeat (first | refine gG ?_ | refine zN1 (fun hlen => ?_) | refine zN2 (fun hlen => ?_) | refine zAl (fun _ => ?_) | refine zBf ?_ | refine zAp (fun _ => ?_))
    refine zIxo b hbD ?_
    repeat (first | refine gG ?_ | refine zN1 (fun hlen => ?_) | refine zN2 (fun hlen => ?_) | refine zAl (fun _ => ?_) | refine zBf ?_ | refine zAp (fun _ => ?_))
    refine zSe (us := [.lit (.int .i64 ((db : Int) + 1))]) hs2 hb2 ?_
    repeat (first | refine gG ?_ | refine zN1 (fun hlen => ?_) | refine zN2 (fun hlen => ?_) | refine zAl (fun _ => ?_) | refine zBf ?_ | refine zAp (fun _ => ?_))
    refine zIxo k hkl ?_
    repeat (first | refine gG ?_ | refine zN1 (fun hlen => ?_) | refine zN2 (fun hlen => ?_) | refine zAl (fun _ => ?_) | refine zBf ?_ | refine zAp (fun _ => ?_))
    refine zElo1 hli ?_
    repeat (first | refine gG ?_ | refine zN1 (fun hlen => ?_) | refine zN2 (fun hlen => ?_) | refine zAl (fun _ => ?_) | refine zBf ?_ | refine zAp (fun _ => ?_))
    rw [← hD2]
    refine zPeekG hnext hnR hnf (fun vr2 => ?_)
    repeat (first | refine gG ?_ | refine zN1 (fun hlen => ?_) | refine zN2 (fun hlen => ?_) | refine zAl (fun _ => ?_) | refine zBf ?_ | refine zAp (fun _ => ?_))
    exact ⟨(D2, r, ch ++ [(i : Int)], _, vr2), hG2, by simp only [List.length_append, List.length_singleton]; omega, Wk.trans (wk_pick [0, 1, 4] rfl rfl) (Wk.trans (wk_as 10 (.own 2 vr2) re_own) (x_wkd 3 ⟨rfl, rfl, rfl, trivial⟩ (by simp only [List.flatMap_append, List.length_append]; rfl) (by repeat (first | exact ag_refl | refine ag_upd rfl ?_ | refine ag_at rfl rfl ?_))))⟩
end Go.Proofs.Ytaoldigfefmamaa
namespace Go.Proofs.Ytaoldigfefmamaa
open Go.RowKit
section
variable {P : Program} {F : Frm} {L : Tab} {d : Option Tmp} {ty : TypeId} {pos : String} {aft : Array Edge} {g : Option (Nat × Bool)} {ρ : Operand → AV} {hp : List Blk} {K : AV → List Blk → Prop}
/-- an element of an array -/
theorem zAi {t el : TypeId} {ti te : TI} {x y : Operand} {cs : List T} {n : Nat} {k : IntKind} {z : Int} {v : T} (j : Nat) (hj : j < n) (hv : cs[j]? = some v) (h : K (.c v) hp) (hz : z = (j : Int) := by exact rfl) (hL : TabOk P L := by exact tok) (hx : ρ x = .c (.agg cs) := by exact rfl) (hy : ρ y = .c (.lit (.int k z)) := by exact rfl) (ht : L.look t = some ti := by exact rfl) (hd : ti.d = .array n el := by exact rfl) (hte : L.look el = some te := by exact rfl) (ha : te.agg = false := by exact rfl) (hs : te.size = 1 := by exact rfl) : LO P F ⟨d, .index t x y, ty, pos, aft, g⟩ ρ hp K := by
  refine LO.same (fun M e w he hh => ?_) h
  have h1 := he x (by first | (simp [Op.operands]; done) | simp [Op.operands, Call.operands])
  rw [hx] at h1
  simp only [RA, RT] at h1
  obtain ⟨xs, hu, hxs⟩ := h1
  have h2 := he y (by first | (simp [Op.operands]; done) | simp [Op.operands, Call.operands])
  rw [hy] at h2
  simp only [RA, RT] at h2
  obtain ⟨u, hu1, hu2⟩ := hxs.get hv
  refine ⟨u, ?_, by simp only [RA]; exact hu2⟩
  subst hz
  simp [execOp, Instr.index, hu, h2, asIntOf, run_underlying (hL.array ht hd), part, hL.sizeOf hte, hL.isAgg hte, ha, hu1, hj, hs]
end
set_option maxRecDepth 100000 in
set_option maxHeartbeats 1000000 in
theorem cloneWho_ag (ws : List (List Dd)) (hl : ws.length ≤ 1048576) : AG Try.prog 33 [.c (whoRow3 ws)] [] (fun r hs => ∃ v, r = .own 0 v ∧ hs = [.row v 43 1 ws.length (ws.flatMap whoTs3)]) := by
  refine ag_enter 1 tok Try.func33 Try.ntmps33 Try.results33 rfl (by kernel_rfl) rfl fun F => ?_
  repeat (first | refine gG ?_ | refine zAp (fun _ => ?_))
  refine zNs (fun b hb => ?_)
  cases b
  · repeat (first | refine gX ?_ | refine zAp (fun _ => ?_))
    refine zBo (fun _ => ?_)
    repeat (first | refine gG ?_ | refine zAp (fun _ => ?_))
    refine zG ?_
    exact ⟨_, rfl, by simp only [List.nil_append, Nat.zero_add]⟩
  · have h0 := hb rfl
    have : ws = [] := List.eq_nil_of_length_eq_zero h0
    subst this
    repeat (first | refine gO ?_ | refine ac_seq ?_ | refine ac_block ?_ | refine ac_region ?_ | refine ac_skip ?_ | refine zT ?_)
    refine x_own 2 43 1 rfl rfl rfl rfl rfl ?_
    repeat (first | refine gG ?_ | refine zAp (fun _ => ?_))
    refine zG ?_
    exact ⟨_, rfl, rfl⟩
/-- what everyone has left to do -/
structure LeftOk (ws : List (List Dd)) (D : List Int) (Lf : List (List Dd)) : Prop where
  len : Lf.length = ws.length
  at_ : ∀ {w d : Nat} {r : List Dd}, ws[w]? = some r → D[w]? = some (d : Int) → Lf[w]? = some (r.drop d)
theorem left_start (ws : List (List Dd)) : LeftOk ws (zeros ws.length) ws :=
  ⟨rfl, fun {w d r} hr hd => by
    rw [zeros_at (List.getElem?_eq_some_iff.1 hr).1] at hd
    have : d = 0 := by have := Option.some.inj hd; omega
    subst this
    rw [hr]; rfl⟩
theorem left_step {ws : List (List Dd)} {D : List Int} {Lf : List (List Dd)} (h : LeftOk ws D Lf) {a da : Nat} {ra : List Dd} (hra : ws[a]? = some ra) (hda : D[a]? = some (da : Int)) : LeftOk ws (D.set a ((da : Int) + 1)) (Lf.set a ((ra.drop da).drop 1)) := by
  have haD : a < D.length := (List.getElem?_eq_some_iff.1 hda).1
  have haL : a < Lf.length := by rw [h.len]; exact (List.getElem?_eq_some_iff.1 hra).1
  refine ⟨by simp [h.len], fun {w d r} hr hd => ?_⟩
  rw [List.getElem?_set] at hd ⊢
  by_cases e : a = w
  · subst e
    rw [hra] at hr
    cases hr
    rw [if_pos rfl, if_pos haD] at hd
    have : d = da + 1 := by have := Option.some.inj hd; omega
    subst this
    rw [if_pos rfl, if_pos haL, List.drop_drop]
  · rw [if_neg e] at hd ⊢
    exact h.at_ hr hd
theorem spl_w (L : List (List Dd)) (j : Nat) (x : List Dd) : spl (L.flatMap whoTs3) (j * 1) [ddRow3 x] = (L.set j x).flatMap whoTs3 := by
  have hm : ∀ l : List (List Dd), l.flatMap whoTs3 = l.map ddRow3 := fun l => by
    induction l with
    | nil => rfl
    | cons a l ih => rw [List.flatMap_cons, ih]; rfl
  rw [hm, hm, Nat.mul_one]
  show List.set _ _ _ = _
  rw [List.map_set]
theorem whoTs3_len (r : List Dd) : (whoTs3 r).length = 1 := rfl
theorem sgn_sum (s s' : Bool) : decide (sgn s + sgn s' = 1) = !decide (s = s') := by cases s <;> cases s' <;> rfl
theorem sgn_01 (s : Bool) : 0 ≤ sgn s ∧ sgn s ≤ 1 := by cases s <;> simp [sgn]
/-- a line, and what its two ends have left -/
theorem rdy_left {n : Nt} {D : List Int} {i a b da db : Nat} {ra rb : List Dd} (h : LineAt n D i a b da db ra rb) : rdyB n D i = match ra.drop da, rb.drop db with
    | x :: _, y :: _ => decide (x.line = (i : Int)) && decide (y.line = (i : Int)) && meetB x y
    | _, _ => false := by
  have h1 : ∀ (r : List Dd) (k : Nat), r[k]? = (r.drop k).head? := fun r k => by rw [List.head?_drop]
  rw [h.rdy, h1, h1]
  cases ra.drop da with
  | nil => rfl
  | cons x A =>
    cases rb.drop db with
    | nil => rfl
    | cons y B => rfl
end Go.Proofs.Ytaoldigfefmamaa
