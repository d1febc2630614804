/-
  Texts of this proof, part 10: Wtj Wtk Wtl Wtm.
-/
import Derived.Test.YtaoldigfefmamaaQTalkSays9
import Derived.Laws.IdiomRangeMap
import Derived.Lib.AppendStr
namespace Go.Proofs.Ytaoldigfefmamaa
open Go.RowKit
section
variable {P : Program} {F : Frm} {L : Tab} {d : Option Tmp} {ty : TypeId} {pos : String} {aft : Array Edge} {g : Option (Nat × Bool)} {ρ : Operand → AV} {hp : List Blk} {K : AV → List Blk → Prop}
/-- nil is nil -/
theorem zNnil {t t' el : TypeId} {ti : TI} {x y : Operand} (h : K (.c (.lit (.bool true))) hp) (hL : TabOk P L := by exact tok) (hx : ρ x = .c (.lit (.slice none 0 0)) := by exact rfl) (hy : ρ y = .c (.lit (.slice none 0 0)) := by exact rfl) (ht : L.look t = some ti := by exact rfl) (hd : ti.d = .slice el := by exact rfl) : LO P F ⟨d, .binOp .eql t x y t', ty, pos, aft, g⟩ ρ hp K := by
  refine ⟨fun M e w he hh => ?_⟩
  have h1 := he x (by first | (simp [Op.operands]; done) | simp [Op.operands, Call.operands])
  rw [hx] at h1
  have h2 := he y (by first | (simp [Op.operands]; done) | simp [Op.operands, Call.operands])
  rw [hy] at h2
  simp only [RA, RT] at h1 h2
  have hr : (execOp e ⟨d, .binOp .eql t x y t', ty, pos, aft, g⟩).run P w = .ok (.value (.bool true)) w := by
    simp [execOp, h1, h2, guard_slice, binOp, run_nilS (hL.slice ht hd)]
  rw [hr]
  exact ⟨M, _, hp, h, Ext.refl _ _, hh, by simp only [RA, RT]⟩
/-- what holds an element is not nil -/
theorem zNcons {t t' el : TypeId} {ti : TI} {x y : Operand} {n sz : Nat} {cs : List T} (hn : 0 < n) (h : K (.c (.lit (.bool false))) hp) (hL : TabOk P L := by exact tok) (hx : ρ x = .c (.row n sz cs) := by exact rfl) (hy : ρ y = .c (.lit (.slice none 0 0)) := by exact rfl) (ht : L.look t = some ti := by exact rfl) (hd : ti.d = .slice el := by exact rfl) : LO P F ⟨d, .binOp .eql t x y t', ty, pos, aft, g⟩ ρ hp K :=
  zNs (fun b hb => by
    cases b
    · exact h
    · have := hb rfl; omega) hL hx hy ht hd
end
theorem bfs_len {m : Nat} {ls : List Ln} (hls : LnsOk m ls) {fr to but : Int} {R : Option (List Int)} {w : List Int} : ∀ (f : Nat) {s : List (Int × List Int) × List Int}, left m s ≤ f → WS m ls fr to but R s → R = some w → w.length ≤ m := by
  intro f
  induction f with
  | zero =>
    intro s hf hW hR
    unfold left at hf
    have := hW.seen.le
    omega
  | succ f ih =>
    rintro ⟨Q, sn⟩ hf hW hR
    cases Q with
    | nil => rw [ws_none hW] at hR; cases hR
    | cons p q =>
      by_cases hp : p.1 = to
      · rw [ws_hit hW hp] at hR
        have h1 := hW.short p (by simp)
        have h2 := hW.seen.le
        cases hR
        dsimp only at h1 h2
        omega
      · obtain ⟨h1, h2⟩ := ws_step hls hW hp
        exact ih (by omega) h1 hR
theorem wayOf_len {n : Nt} (hok : NOk n) {fr to but : Int} (hf : 0 ≤ fr ∧ fr < n.who.length) {w : List Int} (h : wayOf n fr to but = some w) : w.length ≤ 8 :=
  Nat.le_trans (bfs_len (lns_ok hok) _ (Nat.le_refl _) (ws_init n fr to but hf) h) hok.who8
def ringStep (n : Nt) (best : Option (List Int)) (p : Ln × Nat) : Option (List Int) := match wayOf n p.1.b p.1.a (p.2 : Int) with
  | none => best
  | some w => match best with
    | none => some ((p.2 : Int) :: w)
    | some b => if w.length + 1 < b.length then some ((p.2 : Int) :: w) else some b
def ringTo (n : Nt) (k : Nat) : Option (List Int) := (n.lines.zipIdx.take k).foldl (ringStep n) none
def ringR (n : Nt) : Option (List Int) := ringTo n n.lines.length
theorem ringTo_snoc {n : Nt} {k : Nat} {l : Ln} (h : n.lines[k]? = some l) : ringTo n (k + 1) = ringStep n (ringTo n k) (l, k) := by
  have hz := zip_idx h
  obtain ⟨h1, h2⟩ := List.getElem?_eq_some_iff.1 hz
  unfold ringTo
  rw [List.take_succ_eq_append_getElem h1, List.foldl_append, h2]; rfl
def bestT : Option (List Int) → T
  | none => .lit (.slice none 0 0)
  | some l => nRow l
def BestOk (b : Option (List Int)) : Prop := ∀ l, b = some l → 0 < l.length ∧ l.length ≤ 9
theorem bestOk_none : BestOk none := fun _ h => by cases h
theorem bestOk_cons {k : Int} {w : List Int} (h : w.length ≤ 8) : BestOk (some (k :: w)) := fun l e => by cases e; simp; omega
set_option maxRecDepth 100000 in
set_option maxHeartbeats 4000000 in
theorem refRing_af (n : Nt) (hok : NOk n) : AF Try.prog 12 [n.t3] (· = bestT (ringR n)) := by
  have hpath : ∀ (i : Nat) (l : Ln), n.lines[i]? = some l → AF Try.prog 31 [n.t3, .lit (.int .i64 l.b), .lit (.int .i64 l.a), .lit (.int .i64 (i : Nat))] (· = .tup [nRow ((wayOf n l.b l.a (i : Int)).getD []), .lit (.bool (wayOf n l.b l.a (i : Int)).isSome)]) := fun i l hl => by
    obtain ⟨l1, l2, l3, l4, l5⟩ := hok.ln hl
    exact refPath_af n hok l.b l.a (i : Int) ⟨l2, l4⟩
  have hwlen : ∀ (i : Nat) (l : Ln), n.lines[i]? = some l → ∀ w, wayOf n l.b l.a (i : Int) = some w → w.length ≤ 8 := fun i l hl w hw => by
    obtain ⟨l1, l2, l3, l4, l5⟩ := hok.ln hl
    exact wayOf_len hok ⟨l2, l4⟩ hw
  have hsn := @ringTo_snoc n
  have hst : ∀ (l : Ln) (k : Nat) best, ringStep n best (l, k) = match wayOf n l.b l.a (k : Int) with
    | none => best
    | some w => match best with
      | none => some ((k : Int) :: w)
      | some b => if w.length + 1 < b.length then some ((k : Int) :: w) else some b := fun _ _ _ => rfl
  have h0 : ringTo n 0 = none := rfl
  unfold ringR
  generalize wayOf n = wf at *
  generalize ringTo n = rT at *
  generalize ringStep n = rS at *
  obtain ⟨ls, ws⟩ := n
  clear hok
  dsimp only at *
  refine af_enter tok Try.func12 Try.ntmps12 Try.results12 rfl (by kernel_rfl) rfl rfl fun F hX => ?_
  repeat (first | refine gG ?_ | refine zN1 (fun hlen => ?_) | refine zN2 (fun hlen => ?_) | refine zAl (fun _ => ?_) | refine zBf ?_)
  refine x_loop [3, 4, 5, 6, 7, 11, 12, 13, 14, 15, 16, 17, 18, 19, 20, 21, 22, 23, 24, 25, 26, 27, 28, 29, 30, 31, 32, 33, 34, 35, 36, 37, 38, 39, 40, 41, 42, 43, 44] (fun y : Nat × Option (List Int) => [(11, .c (.lit (.int .i64 (y.1 : Nat)))), (3, .c (bestT y.2))]) (fun _ => []) (fun y => y.1 ≤ ls.length ∧ y.2 = rT y.1 ∧ BestOk y.2) (fun y => ls.length - y.1) (0, none) ⟨Nat.zero_le _, h0.symm, bestOk_none⟩ ⟨rfl, rfl, trivial⟩ rfl ?_
  rintro ⟨k, best⟩ ⟨hk, hb, hbo⟩
  dsimp only at hk hb hbo ⊢
  repeat (first | refine gG ?_ | refine zN1 (fun hlen => ?_) | refine zN2 (fun hlen => ?_) | refine zAl (fun _ => ?_) | refine zBf ?_)
  refine x_cond rfl (fun h => ?_) (fun h => ?_)
  · have hk' : k < ls.length := by simpa using h
    obtain ⟨l, hl⟩ := nth hk'
    have hlt := flat_at Ln.ts 2 Ln.ts_len hl
    have hp := hpath k l hl
    have hwl := hwlen k l hl
    have hnx := hsn hl
    rw [hst, ← hb] at hnx
    clear h hl hpath hwlen hsn hst h0 hb
    obtain ⟨la, lb⟩ := l
    dsimp only at hp hwl hnx
    cases hw : wf lb la (k : Int) with
    | none =>
      rw [hw] at hp hnx
      dsimp only [Option.getD, Option.isSome] at hp hnx
      clear hwl hw
      repeat (first | refine zIxb 0 ?_ | refine zIxb 1 ?_ | refine zIxb 2 ?_ | refine gG ?_ | refine zN1 (fun hlen => ?_) | refine zN2 (fun hlen => ?_) | refine zAl (fun _ => ?_) | refine zBf ?_ | refine zAp (fun _ => ?_))
      refine zIx (k) (hk') ?_
      repeat (first | refine gG ?_ | refine zN1 (fun hlen => ?_) | refine zN2 (fun hlen => ?_) | refine zAl (fun _ => ?_) | refine zBx (fun _ => ?_))
      refine zEl (hlt) (Ln.ts_len _) ?_
      repeat (first | refine zIxb 0 ?_ | refine zIxb 1 ?_ | refine zIxb 2 ?_ | refine gG ?_ | refine zN1 (fun hlen => ?_) | refine zN2 (fun hlen => ?_) | refine zAl (fun _ => ?_) | refine zBf ?_ | refine zAp (fun _ => ?_))
      refine zCall (hp) ?_
      rintro _ rfl
      repeat (first | refine zIxb 0 ?_ | refine zIxb 1 ?_ | refine zIxb 2 ?_ | refine gG ?_ | refine zN1 (fun hlen => ?_) | refine zN2 (fun hlen => ?_) | refine zAl (fun _ => ?_) | refine zBf ?_ | refine zAp (fun _ => ?_))
      exact ⟨(k + 1, best), ⟨hk', hnx.symm, hbo⟩, by simp only; omega, x_wkd 0 ⟨rfl, rfl, trivial⟩ rfl (by repeat (first | exact ag_refl | refine ag_upd rfl ?_ | refine ag_at rfl rfl ?_))⟩
    | some w =>
      rw [hw] at hp hnx
      have hw8 := hwl w hw
      dsimp only [Option.getD, Option.isSome] at hp hnx
      have hcat := catN2_af [((k : Nat) : Int)] w (by simp; omega)
      have hbc := bestOk_cons (k := (k : Int)) hw8
      clear hwl hw
      cases best with
      | none =>
        dsimp only at hnx
        repeat (first | refine zIxb 0 ?_ | refine zIxb 1 ?_ | refine zIxb 2 ?_ | refine gG ?_ | refine zN1 (fun hlen => ?_) | refine zN2 (fun hlen => ?_) | refine zAl (fun _ => ?_) | refine zBf ?_ | refine zAp (fun _ => ?_))
        refine zIx (k) (hk') ?_
        repeat (first | refine gG ?_ | refine zN1 (fun hlen => ?_) | refine zN2 (fun hlen => ?_) | refine zAl (fun _ => ?_) | refine zBx (fun _ => ?_))
        refine zEl (hlt) (Ln.ts_len _) ?_
        repeat (first | refine zIxb 0 ?_ | refine zIxb 1 ?_ | refine zIxb 2 ?_ | refine gG ?_ | refine zN1 (fun hlen => ?_) | refine zN2 (fun hlen => ?_) | refine zAl (fun _ => ?_) | refine zBf ?_ | refine zAp (fun _ => ?_))
        refine zCall (hp) ?_
        rintro _ rfl
        repeat (first | refine zIxb 0 ?_ | refine zIxb 1 ?_ | refine zIxb 2 ?_ | refine gG ?_ | refine zN1 (fun hlen => ?_) | refine zN2 (fun hlen => ?_) | refine zAl (fun _ => ?_) | refine zBf ?_ | refine zAp (fun _ => ?_))
        refine zNnil ?_
        repeat (first | refine zIxb 0 ?_ | refine zIxb 1 ?_ | refine zIxb 2 ?_ | refine gG ?_ | refine zN1 (fun hlen => ?_) | refine zN2 (fun hlen => ?_) | refine zAl (fun _ => ?_) | refine zBf ?_ | refine zAp (fun _ => ?_))
        refine zCall (hcat) ?_
        rintro _ rfl
        repeat (first | refine zIxb 0 ?_ | refine zIxb 1 ?_ | refine zIxb 2 ?_ | refine gG ?_ | refine zN1 (fun hlen => ?_) | refine zN2 (fun hlen => ?_) | refine zAl (fun _ => ?_) | refine zBf ?_ | refine zAp (fun _ => ?_))
        exact ⟨(k + 1, some ((k : Int) :: w)), ⟨hk', hnx.symm, hbc⟩, by simp only; omega, x_wkd 0 ⟨rfl, rfl, trivial⟩ rfl (by repeat (first | exact ag_refl | refine ag_upd rfl ?_ | refine ag_at rfl rfl ?_))⟩
      | some b =>
        dsimp only at hnx
        obtain ⟨b1, b2⟩ := hbo b rfl
        by_cases hlt3 : w.length + 1 < b.length
        · have e1 : decide (((w.length + 1 : Nat) : Int) < ((b.length : Nat) : Int)) = true := decide_eq_true (by omega)
          rw [if_pos hlt3] at hnx
          repeat (first | refine zIxb 0 ?_ | refine zIxb 1 ?_ | refine zIxb 2 ?_ | refine gG ?_ | refine zN1 (fun hlen => ?_) | refine zN2 (fun hlen => ?_) | refine zAl (fun _ => ?_) | refine zBf ?_ | refine zAp (fun _ => ?_))
          refine zIx (k) (hk') ?_
          repeat (first | refine gG ?_ | refine zN1 (fun hlen => ?_) | refine zN2 (fun hlen => ?_) | refine zAl (fun _ => ?_) | refine zBx (fun _ => ?_))
          refine zEl (hlt) (Ln.ts_len _) ?_
          repeat (first | refine zIxb 0 ?_ | refine zIxb 1 ?_ | refine zIxb 2 ?_ | refine gG ?_ | refine zN1 (fun hlen => ?_) | refine zN2 (fun hlen => ?_) | refine zAl (fun _ => ?_) | refine zBf ?_ | refine zAp (fun _ => ?_))
          refine zCall (hp) ?_
          rintro _ rfl
          repeat (first | refine zIxb 0 ?_ | refine zIxb 1 ?_ | refine zIxb 2 ?_ | refine gG ?_ | refine zN1 (fun hlen => ?_) | refine zN2 (fun hlen => ?_) | refine zAl (fun _ => ?_) | refine zBf ?_ | refine zAp (fun _ => ?_))
          refine zNcons b1 ?_
          repeat (first | refine zIxb 0 ?_ | refine zIxb 1 ?_ | refine zIxb 2 ?_ | refine gG ?_ | refine zN1 (fun hlen => ?_) | refine zN2 (fun hlen => ?_) | refine zAl (fun _ => ?_) | refine zBf ?_ | refine zAp (fun _ => ?_))
          refine zCall (hcat) ?_
          rintro _ rfl
          repeat (first | refine zIxb 0 ?_ | refine zIxb 1 ?_ | refine zIxb 2 ?_ | refine gG ?_ | refine zN1 (fun hlen => ?_) | refine zN2 (fun hlen => ?_) | refine zAl (fun _ => ?_) | refine zBf ?_ | refine zAp (fun _ => ?_))
          exact ⟨(k + 1, some ((k : Int) :: w)), ⟨hk', hnx.symm, hbc⟩, by simp only; omega, x_wkd 0 ⟨rfl, rfl, trivial⟩ rfl (by repeat (first | exact ag_refl | refine ag_upd rfl ?_ | refine ag_at rfl rfl ?_))⟩
        · have e1 : decide (((w.length + 1 : Nat) : Int) < ((b.length : Nat) : Int)) = false := decide_eq_false (by omega)
          rw [if_neg hlt3] at hnx
          repeat (first | refine zIxb 0 ?_ | refine zIxb 1 ?_ | refine zIxb 2 ?_ | refine gG ?_ | refine zN1 (fun hlen => ?_) | refine zN2 (fun hlen => ?_) | refine zAl (fun _ => ?_) | refine zBf ?_ | refine zAp (fun _ => ?_))
          refine zIx (k) (hk') ?_
          repeat (first | refine gG ?_ | refine zN1 (fun hlen => ?_) | refine zN2 (fun hlen => ?_) | refine zAl (fun _ => ?_) | refine zBx (fun _ => ?_))
          refine zEl (hlt) (Ln.ts_len _) ?_
          repeat (first | refine zIxb 0 ?_ | refine zIxb 1 ?_ | refine zIxb 2 ?_ | refine gG ?_ | refine zN1 (fun hlen => ?_) | refine zN2 (fun hlen => ?_) | refine zAl (fun _ => ?_) | refine zBf ?_ | refine zAp (fun _ => ?_))
          refine zCall (hp) ?_
          rintro _ rfl
          repeat (first | refine zIxb 0 ?_ | refine zIxb 1 ?_ | refine zIxb 2 ?_ | refine gG ?_ | refine zN1 (fun hlen => ?_) | refine zN2 (fun hlen => ?_) | refine zAl (fun _ => ?_) | refine zBf ?_ | refine zAp (fun _ => ?_))
          refine zNcons b1 ?_
          repeat (first | refine zIxb 0 ?_ | refine zIxb 1 ?_ | refine zIxb 2 ?_ | refine gG ?_ | refine zN1 (fun hlen => ?_) | refine zN2 (fun hlen => ?_) | refine zAl (fun _ => ?_) | refine zBf ?_ | refine zAp (fun _ => ?_))
          exact ⟨(k + 1, some b), ⟨hk', hnx.symm, hbo⟩, by simp only; omega, x_wkd 0 ⟨rfl, rfl, trivial⟩ rfl (by repeat (first | exact ag_refl | refine ag_upd rfl ?_ | refine ag_at rfl rfl ?_))⟩
  · have hk' : k = ls.length := Nat.le_antisymm hk (Nat.le_of_not_lt (by simpa using h))
    subst hk'
    rw [← hb]
    clear h hpath hwlen hsn hst h0 hb
    repeat (first | refine gG ?_ | refine zN1 (fun hlen => ?_) | refine zN2 (fun hlen => ?_) | refine zAl (fun _ => ?_) | refine zBf ?_)
    first | refine zR (ts := [bestT best]) ?_ | refine zQ (ts := [bestT best]) ?_
    rfl
set_option maxRecDepth 100000 in
set_option maxHeartbeats 4000000 in
theorem ring_af (n : Nt) : AF Try.prog 6 [n.t] (· = .tup [nRow (if netE n = 0 then (ringR n).getD [] else []), .lit (.int .i64 (if netE n = 0 then (if (ringR n).isSome then 0 else 4) else netE n))]) := by
  have hc := check_af n
  by_cases hz : netE n = 0
  · rw [if_pos hz, if_pos hz]
    have hok := netE_ok hz
    rw [hz] at hc
    have hpath : ∀ (i : Nat) (l : Ln), n.lines[i]? = some l → AF Try.prog 25 [n.t, .lit (.int .i64 l.b), .lit (.int .i64 l.a), .lit (.int .i64 (i : Nat))] (· = .tup [nRow ((wayOf n l.b l.a (i : Int)).getD []), .lit (.bool (wayOf n l.b l.a (i : Int)).isSome)]) := fun i l hl => by
      obtain ⟨l1, l2, l3, l4, l5⟩ := hok.ln hl
      exact path_af n hok l.b l.a (i : Int) ⟨l2, l4⟩
    have hwlen : ∀ (i : Nat) (l : Ln), n.lines[i]? = some l → ∀ w, wayOf n l.b l.a (i : Int) = some w → w.length ≤ 8 := fun i l hl w hw => by
      obtain ⟨l1, l2, l3, l4, l5⟩ := hok.ln hl
      exact wayOf_len hok ⟨l2, l4⟩ hw
    have hsn := @ringTo_snoc n
    have hst : ∀ (l : Ln) (k : Nat) best, ringStep n best (l, k) = match wayOf n l.b l.a (k : Int) with
      | none => best
      | some w => match best with
        | none => some ((k : Int) :: w)
        | some b => if w.length + 1 < b.length then some ((k : Int) :: w) else some b := fun _ _ _ => rfl
    have h0 : ringTo n 0 = none := rfl
    unfold ringR
    generalize wayOf n = wf at *
    generalize ringTo n = rT at *
    generalize ringStep n = rS at *
    obtain ⟨ls, ws⟩ := n
    clear hok hz
    dsimp only at *
    refine af_enter tok Try.func6 Try.ntmps6 Try.results6 rfl (by kernel_rfl) rfl rfl fun F hX => ?_
    repeat (first | refine gG ?_ | refine zN1 (fun hlen => ?_) | refine zN2 (fun hlen => ?_) | refine zAl (fun _ => ?_) | refine zBf ?_ | refine zAp (fun _ => ?_))
    refine zCall (hc) ?_
    rintro _ rfl
    clear hc
    repeat (first | refine gG ?_ | refine zN1 (fun hlen => ?_) | refine zN2 (fun hlen => ?_) | refine zAl (fun _ => ?_) | refine zBf ?_ | refine zAp (fun _ => ?_))
    refine x_loop [5, 6, 7, 8, 9, 18, 19, 20, 21, 22, 23, 24, 25, 26, 27, 28, 29, 30, 31, 32, 33, 34, 35, 36, 37, 38, 39, 40, 41, 42, 43, 44, 45, 46, 47, 48, 49, 50] (fun y : Nat × Option (List Int) => [(18, .c (.lit (.int .i64 (y.1 : Nat)))), (5, .c (bestT y.2))]) (fun _ => []) (fun y => y.1 ≤ ls.length ∧ y.2 = rT y.1 ∧ BestOk y.2) (fun y => ls.length - y.1) (0, none) ⟨Nat.zero_le _, h0.symm, bestOk_none⟩ ⟨rfl, rfl, trivial⟩ rfl ?_
    rintro ⟨k, best⟩ ⟨hk, hb, hbo⟩
    dsimp only at hk hb hbo ⊢
    repeat (first | refine gG ?_ | refine zN1 (fun hlen => ?_) | refine zN2 (fun hlen => ?_) | refine zAl (fun _ => ?_) | refine zBf ?_ | refine zAp (fun _ => ?_))
    refine x_cond rfl (fun h => ?_) (fun h => ?_)
    · have hk' : k < ls.length := by simpa using h
      obtain ⟨l, hl⟩ := nth hk'
      have hlt := flat_at Ln.ts 2 Ln.ts_len hl
      have hp := hpath k l hl
      have hwl := hwlen k l hl
      have hnx := hsn hl
      rw [hst, ← hb] at hnx
      clear h hl hpath hwlen hsn hst h0 hb
      obtain ⟨la, lb⟩ := l
      dsimp only at hp hwl hnx
      cases hw : wf lb la (k : Int) with
      | none =>
        rw [hw] at hp hnx
        dsimp only [Option.getD, Option.isSome] at hp hnx
        clear hwl hw
        repeat (first | refine gG ?_ | refine zN1 (fun hlen => ?_) | refine zN2 (fun hlen => ?_) | refine zAl (fun _ => ?_) | refine zBf ?_ | refine zAp (fun _ => ?_))
        refine zIx (k) (hk') ?_
        repeat (first | refine gG ?_ | refine zN1 (fun hlen => ?_) | refine zN2 (fun hlen => ?_) | refine zAl (fun _ => ?_) | refine zBx (fun _ => ?_) | refine zAp (fun _ => ?_))
        refine zEl (hlt) (Ln.ts_len _) ?_
        repeat (first | refine gG ?_ | refine zN1 (fun hlen => ?_) | refine zN2 (fun hlen => ?_) | refine zAl (fun _ => ?_) | refine zBf ?_ | refine zAp (fun _ => ?_))
        refine zCall (hp) ?_
        rintro _ rfl
        repeat (first | refine gG ?_ | refine zN1 (fun hlen => ?_) | refine zN2 (fun hlen => ?_) | refine zAl (fun _ => ?_) | refine zBf ?_ | refine zAp (fun _ => ?_))
        exact ⟨(k + 1, best), ⟨hk', hnx.symm, hbo⟩, by simp only; omega, x_wkd 0 ⟨rfl, rfl, trivial⟩ rfl (by repeat (first | exact ag_refl | refine ag_upd rfl ?_ | refine ag_at rfl rfl ?_))⟩
      | some w =>
        rw [hw] at hp hnx
        have hw8 := hwl w hw
        dsimp only [Option.getD, Option.isSome] at hp hnx
        have hbc := bestOk_cons (k := (k : Int)) hw8
        have hbt : bestT (some ((k : Int) :: w)) = .row (1 + w.length) 1 ([.lit (.int .i64 (k : Int))] ++ w.flatMap nTs) := by
          have hcl : ((k : Int) :: w).length = 1 + w.length := by rw [List.length_cons]; omega
          unfold bestT nRow
          dsimp only
          rw [hcl]; rfl
        clear hwl hw
        cases best with
        | none =>
          dsimp only at hnx
          repeat (first | refine gG ?_ | refine zN1 (fun hlen => ?_) | refine zN2 (fun hlen => ?_) | refine zAl (fun _ => ?_) | refine zBf ?_ | refine zAp (fun _ => ?_))
          refine zIx (k) (hk') ?_
          repeat (first | refine gG ?_ | refine zN1 (fun hlen => ?_) | refine zN2 (fun hlen => ?_) | refine zAl (fun _ => ?_) | refine zBx (fun _ => ?_) | refine zAp (fun _ => ?_))
          refine zEl (hlt) (Ln.ts_len _) ?_
          repeat (first | refine gG ?_ | refine zN1 (fun hlen => ?_) | refine zN2 (fun hlen => ?_) | refine zAl (fun _ => ?_) | refine zBf ?_ | refine zAp (fun _ => ?_))
          refine zCall (hp) ?_
          rintro _ rfl
          repeat (first | refine gG ?_ | refine zN1 (fun hlen => ?_) | refine zN2 (fun hlen => ?_) | refine zAl (fun _ => ?_) | refine zBf ?_ | refine zAp (fun _ => ?_))
          refine zNnil ?_
          repeat (first | refine gX ?_ | refine zN1 (fun hlen => ?_) | refine zN2 (fun hlen => ?_) | refine zAl (fun _ => ?_) | refine zBf ?_ | refine zAp (fun _ => ?_))
          refine zBo (fun v => ?_)
          repeat (first | refine gG ?_ | refine zN1 (fun hlen => ?_) | refine zN2 (fun hlen => ?_) | refine zAl (fun _ => ?_) | refine zBf ?_ | refine zAp (fun _ => ?_))
          exact ⟨(k + 1, some ((k : Int) :: w)), ⟨hk', hnx.symm, hbc⟩, by simp only; omega, Wk.trans (wk_fz 5 rfl rfl rfl rfl) (x_wkd 0 ⟨rfl, by show _ = AV.c (bestT (some ((k : Int) :: w))); rw [hbt]; rfl, trivial⟩ rfl (by repeat (first | exact ag_refl | refine ag_upd rfl ?_ | refine ag_at rfl rfl ?_)))⟩
        | some b =>
          dsimp only at hnx
          obtain ⟨b1, b2⟩ := hbo b rfl
          by_cases hlt3 : w.length + 1 < b.length
          · have e1 : decide (((w.length + 1 : Nat) : Int) < ((b.length : Nat) : Int)) = true := decide_eq_true (by omega)
            rw [if_pos hlt3] at hnx
            repeat (first | refine gG ?_ | refine zN1 (fun hlen => ?_) | refine zN2 (fun hlen => ?_) | refine zAl (fun _ => ?_) | refine zBf ?_ | refine zAp (fun _ => ?_))
            refine zIx (k) (hk') ?_
            repeat (first | refine gG ?_ | refine zN1 (fun hlen => ?_) | refine zN2 (fun hlen => ?_) | refine zAl (fun _ => ?_) | refine zBx (fun _ => ?_) | refine zAp (fun _ => ?_))
            refine zEl (hlt) (Ln.ts_len _) ?_
            repeat (first | refine gG ?_ | refine zN1 (fun hlen => ?_) | refine zN2 (fun hlen => ?_) | refine zAl (fun _ => ?_) | refine zBf ?_ | refine zAp (fun _ => ?_))
            refine zCall (hp) ?_
            rintro _ rfl
            repeat (first | refine gG ?_ | refine zN1 (fun hlen => ?_) | refine zN2 (fun hlen => ?_) | refine zAl (fun _ => ?_) | refine zBf ?_ | refine zAp (fun _ => ?_))
            refine zNcons b1 ?_
            repeat (first | refine gX ?_ | refine zN1 (fun hlen => ?_) | refine zN2 (fun hlen => ?_) | refine zAl (fun _ => ?_) | refine zBf ?_ | refine zAp (fun _ => ?_))
            refine zBo (fun v => ?_)
            repeat (first | refine gG ?_ | refine zN1 (fun hlen => ?_) | refine zN2 (fun hlen => ?_) | refine zAl (fun _ => ?_) | refine zBf ?_ | refine zAp (fun _ => ?_))
            exact ⟨(k + 1, some ((k : Int) :: w)), ⟨hk', hnx.symm, hbc⟩, by simp only; omega, Wk.trans (wk_fz 5 rfl rfl rfl rfl) (x_wkd 0 ⟨rfl, by show _ = AV.c (bestT (some ((k : Int) :: w))); rw [hbt]; rfl, trivial⟩ rfl (by repeat (first | exact ag_refl | refine ag_upd rfl ?_ | refine ag_at rfl rfl ?_)))⟩
          · have e1 : decide (((w.length + 1 : Nat) : Int) < ((b.length : Nat) : Int)) = false := decide_eq_false (by omega)
            rw [if_neg hlt3] at hnx
            repeat (first | refine gG ?_ | refine zN1 (fun hlen => ?_) | refine zN2 (fun hlen => ?_) | refine zAl (fun _ => ?_) | refine zBf ?_ | refine zAp (fun _ => ?_))
            refine zIx (k) (hk') ?_
            repeat (first | refine gG ?_ | refine zN1 (fun hlen => ?_) | refine zN2 (fun hlen => ?_) | refine zAl (fun _ => ?_) | refine zBx (fun _ => ?_) | refine zAp (fun _ => ?_))
            refine zEl (hlt) (Ln.ts_len _) ?_
            repeat (first | refine gG ?_ | refine zN1 (fun hlen => ?_) | refine zN2 (fun hlen => ?_) | refine zAl (fun _ => ?_) | refine zBf ?_ | refine zAp (fun _ => ?_))
            refine zCall (hp) ?_
            rintro _ rfl
            repeat (first | refine gG ?_ | refine zN1 (fun hlen => ?_) | refine zN2 (fun hlen => ?_) | refine zAl (fun _ => ?_) | refine zBf ?_ | refine zAp (fun _ => ?_))
            refine zNcons b1 ?_
            repeat (first | refine gG ?_ | refine zN1 (fun hlen => ?_) | refine zN2 (fun hlen => ?_) | refine zAl (fun _ => ?_) | refine zBf ?_ | refine zAp (fun _ => ?_))
            exact ⟨(k + 1, some b), ⟨hk', hnx.symm, hbo⟩, by simp only; omega, x_wkd 0 ⟨rfl, rfl, trivial⟩ rfl (by repeat (first | exact ag_refl | refine ag_upd rfl ?_ | refine ag_at rfl rfl ?_))⟩
    · have hk' : k = ls.length := Nat.le_antisymm hk (Nat.le_of_not_lt (by simpa using h))
      subst hk'
      rw [← hb]
      clear h hpath hwlen hsn hst h0 hb
      cases best with
      | none =>
        repeat (first | refine gG ?_ | refine zN1 (fun hlen => ?_) | refine zN2 (fun hlen => ?_) | refine zAl (fun _ => ?_) | refine zBf ?_ | refine zAp (fun _ => ?_))
        refine zNnil ?_
        repeat (first | refine gG ?_ | refine zN1 (fun hlen => ?_) | refine zN2 (fun hlen => ?_) | refine zAl (fun _ => ?_) | refine zBf ?_ | refine zAp (fun _ => ?_))
        first | refine zR (ts := [nRow [], .lit (.int .i64 4)]) ?_ | refine zQ (ts := [nRow [], .lit (.int .i64 4)]) ?_
        rfl
      | some b =>
        obtain ⟨b1, b2⟩ := hbo b rfl
        repeat (first | refine gG ?_ | refine zN1 (fun hlen => ?_) | refine zN2 (fun hlen => ?_) | refine zAl (fun _ => ?_) | refine zBf ?_ | refine zAp (fun _ => ?_))
        refine zNcons b1 ?_
        repeat (first | refine gG ?_ | refine zN1 (fun hlen => ?_) | refine zN2 (fun hlen => ?_) | refine zAl (fun _ => ?_) | refine zBf ?_ | refine zAp (fun _ => ?_))
        first | refine zR (ts := [nRow b, .lit (.int .i64 0)]) ?_ | refine zQ (ts := [nRow b, .lit (.int .i64 0)]) ?_
        rfl
  · rw [if_neg hz, if_neg hz]
    have d0 : decide (netE n = 0) = false := decide_eq_false hz
    generalize netE n = e at *
    obtain ⟨ls, ws⟩ := n
    refine af_enter tok Try.func6 Try.ntmps6 Try.results6 rfl (by kernel_rfl) rfl rfl fun F hX => ?_
    repeat (first | refine gG ?_ | refine zN1 (fun hlen => ?_) | refine zN2 (fun hlen => ?_) | refine zAl (fun _ => ?_) | refine zBf ?_ | refine zAp (fun _ => ?_))
    refine zCall (hc) ?_
    rintro _ rfl
    repeat (first | refine gG ?_ | refine zN1 (fun hlen => ?_) | refine zN2 (fun hlen => ?_) | refine zAl (fun _ => ?_) | refine zBf ?_ | refine zAp (fun _ => ?_))
    first | refine zR (ts := [nRow [], .lit (.int .i64 e)]) ?_ | refine zQ (ts := [nRow [], .lit (.int .i64 e)]) ?_
    rfl
end Go.Proofs.Ytaoldigfefmamaa
namespace Go.Proofs.Ytaoldigfefmamaa
open Go.RowKit
def atI (l : List Int) (i : Nat) : Int := (l[i]?).getD 0
def whoI (ws : List (List Dd)) (i : Nat) : List Dd := (ws[i]?).getD []
def ddI (r : List Dd) (k : Int) : Dd := (r[k.toNat]?).getD default
def waitB (n : Nt) (l : List Int) (i : Nat) : Bool := decide (atI l i < 0) || decide (((whoI n.who i).length : Int) < atI l i)
def waitV (n : Nt) (l : List Int) (i : Nat) : Int := if atI l i = (whoI n.who i).length then -1 else (lnAt n.lines (ddI (whoI n.who i) (atI l i)).line).a + (lnAt n.lines (ddI (whoI n.who i) (atI l i)).line).b - i
def waitTo (n : Nt) (l : List Int) (k : Nat) : List Int := (List.range k).map (waitV n l)
def waitR (n : Nt) (l : List Int) : List Int × Int := if l.length = n.who.length then (if (List.range n.who.length).any (waitB n l) then ([], 1) else (waitTo n l n.who.length, 0)) else ([], 3)
theorem waitTo_snoc (n : Nt) (l : List Int) (k : Nat) : waitTo n l (k + 1) = waitTo n l k ++ [waitV n l k] := by unfold waitTo; rw [List.range_succ, List.map_append]; rfl
theorem waitTo_len (n : Nt) (l : List Int) (k : Nat) : (waitTo n l k).length = k := by simp [waitTo]
theorem atI_eq {l : List Int} {i : Nat} {a : Int} (h : l[i]? = some a) : atI l i = a := by unfold atI; rw [h]; rfl
theorem whoI_eq {ws : List (List Dd)} {i : Nat} {r : List Dd} (h : ws[i]? = some r) : whoI ws i = r := by unfold whoI; rw [h]; rfl
theorem ddI_eq {r : List Dd} {k : Nat} {d : Dd} (h : r[k]? = some d) : ddI r (k : Int) = d := by unfold ddI; rw [Int.toNat_natCast, h]; rfl
theorem any_range_no {p : Nat → Bool} {m : Nat} (h : ∀ j, j < m → p j = false) : (List.range m).any p = false := by
  rw [List.any_eq_false]
  intro j hj
  rw [h j (List.mem_range.1 hj)]
  exact Bool.false_ne_true
theorem any_range_yes {p : Nat → Bool} {m k : Nat} (hk : k < m) (h : p k = true) : (List.range m).any p = true := List.any_eq_true.2 ⟨k, List.mem_range.2 hk, h⟩
/-- what waits at a place: three ways -/
theorem wait_at {n : Nt} (hok : NOk n) {l : List Int} {i : Nat} {a : Int} {r : List Dd} (ha : l[i]? = some a) (hr : n.who[i]? = some r) :
    (waitB n l i = (decide (a < 0) || decide ((r.length : Int) < a))) ∧ (a = (r.length : Int) → waitV n l i = -1) ∧ (0 ≤ a → a < (r.length : Int) → ∃ (d : Dd) (j : Nat) (ln : Ln), r[a.toNat]? = some d ∧ d.line = (j : Int) ∧ n.lines[j]? = some ln ∧ (ln.a = (i : Int) ∨ ln.b = (i : Int)) ∧ ln.a ≠ ln.b ∧ waitV n l i = ln.a + ln.b - i ∧ 0 ≤ ln.a ∧ ln.a < 8 ∧ 0 ≤ ln.b ∧ ln.b < 8) := by
  unfold waitB waitV
  rw [atI_eq ha, whoI_eq hr]
  refine ⟨rfl, fun h => if_pos h, fun h0 h1 => ?_⟩
  obtain ⟨k, rfl⟩ : ∃ k : Nat, a = (k : Int) := ⟨a.toNat, by omega⟩
  obtain ⟨d, hd⟩ := nth (show k < r.length by omega)
  obtain ⟨d1, d2, _, _, d5⟩ := hok.dd hr (List.mem_of_getElem? hd)
  obtain ⟨j, hj⟩ : ∃ j : Nat, d.line = (j : Int) := ⟨d.line.toNat, by omega⟩
  obtain ⟨ln, hln⟩ := nth (show j < n.lines.length by omega)
  obtain ⟨l1, l2, l3, l4, l5⟩ := hok.ln hln
  have h8 := hok.who8
  rw [hj, lnAt_eq hln] at d5
  refine ⟨d, j, ln, by rw [Int.toNat_natCast]; exact hd, hj, hln, d5, l5, ?_, l1, by omega, l2, by omega⟩
  rw [if_neg (by omega), ddI_eq hd, hj, lnAt_eq hln]
set_option maxRecDepth 100000 in
set_option maxHeartbeats 4000000 in
theorem waits_af (n : Nt) (l : List Int) : AF Try.prog 8 [n.t, nRow l] (· = .tup [nRow (if netE n = 0 then (waitR n l).1 else []), .lit (.int .i64 (if netE n = 0 then (waitR n l).2 else netE n))]) := by
  have hc := check_af n
  by_cases hz : netE n = 0
  · rw [if_pos hz, if_pos hz]
    have hok := netE_ok hz
    rw [hz] at hc
    have hat := fun i a r => @wait_at n hok l i a r
    have hsn := waitTo_snoc n l
    have h0 : waitTo n l 0 = [] := rfl
    have hwtl := waitTo_len n l
    have h8 := hok.who8
    have hno := @any_range_no (waitB n l) n.who.length
    have hys := fun k => @any_range_yes (waitB n l) n.who.length k
    unfold waitR
    generalize waitB n l = wb at *
    generalize waitV n l = wv at *
    generalize waitTo n l = wt at *
    obtain ⟨ls, ws⟩ := n
    clear hok hz
    dsimp only at *
    by_cases hlw : l.length = ws.length
    rotate_left
    · rw [if_neg hlw]
      have d1 : decide (((l.length : Nat) : Int) = ((ws.length : Nat) : Int)) = false := decide_eq_false (by omega)
      clear hat hsn h0 hno hys
      refine af_enter tok Try.func8 Try.ntmps8 Try.results8 rfl (by kernel_rfl) rfl rfl fun F hX => ?_
      repeat (first | refine gG ?_ | refine zN1 (fun hlen => ?_) | refine zN2 (fun hlen => ?_) | refine zAl (fun _ => ?_) | refine zBf ?_ | refine zAp (fun _ => ?_))
      refine zCall (hc) ?_
      rintro _ rfl
      repeat (first | refine gG ?_ | refine zN1 (fun hlen => ?_) | refine zN2 (fun hlen => ?_) | refine zAl (fun _ => ?_) | refine zBf ?_ | refine zAp (fun _ => ?_))
      first | refine zR (ts := [nRow [], .lit (.int .i64 3)]) ?_ | refine zQ (ts := [nRow [], .lit (.int .i64 3)]) ?_
      rfl
    rw [if_pos hlw]
    have d1 : decide (((l.length : Nat) : Int) = ((ws.length : Nat) : Int)) = true := decide_eq_true (by omega)
    refine af_enter tok Try.func8 Try.ntmps8 Try.results8 rfl (by kernel_rfl) rfl rfl fun F hX => ?_
    repeat (first | refine gG ?_ | refine zN1 (fun hlen => ?_) | refine zN2 (fun hlen => ?_) | refine zAl (fun _ => ?_) | refine zBf ?_ | refine zAp (fun _ => ?_))
    refine zCall (hc) ?_
    rintro _ rfl
    clear hc
    repeat (first | refine gG ?_ | refine zN1 (fun hlen => ?_) | refine zN2 (fun hlen => ?_) | refine zAl (fun _ => ?_) | refine zBf ?_ | refine zAp (fun _ => ?_))
    refine x_own 7 3 1 rfl rfl rfl rfl rfl ?_
    refine x_loop [4, 5, 7, 8, 9, 10, 24, 25, 26, 27, 28, 29, 30, 31, 32, 33, 34, 35, 36, 37, 38, 39, 40, 41, 42, 43, 44, 45, 46, 47, 48, 49, 50, 51, 52, 53, 54, 55, 56, 57, 58, 59, 60, 61, 62, 63, 64, 65, 66, 67, 68, 69, 70, 71, 72, 73, 74, 75, 76, 77] (fun y : Nat × Value => [(24, .c (.lit (.int .i64 (y.1 : Nat)))), (7, .own 0 y.2)]) (fun y => [.row y.2 3 1 y.1 ((wt y.1).flatMap nTs)]) (fun y => y.1 ≤ l.length ∧ ∀ j, j < y.1 → wb j = false) (fun y => l.length - y.1) (0, .slice none 0 0) ⟨Nat.zero_le _, fun _ h => absurd h (Nat.not_lt_zero _)⟩ ⟨rfl, rfl, trivial⟩ (by simp only [h0]; rfl) ?_
    clear h0
    rintro ⟨k, v⟩ ⟨hk, hn⟩
    dsimp only at hk hn ⊢
    repeat (first | refine gG ?_ | refine zN1 (fun hlen => ?_) | refine zN2 (fun hlen => ?_) | refine zAl (fun _ => ?_) | refine zBf ?_ | refine zAp (fun _ => ?_))
    refine x_cond rfl (fun h => ?_) (fun h => ?_)
    · have hk' : k < l.length := by simpa using h
      have hkw : k < ws.length := by omega
      obtain ⟨a, ha⟩ := nth hk'
      obtain ⟨r, hr⟩ := nth hkw
      have hat1 := n_at ha
      have hwt := who_at hr
      obtain ⟨w1, w2, w3⟩ := hat k a r ha hr
      have hy1 := hys k hkw
      have hs1 := hsn k
      have hn1 : wb k = false → ∀ j, j < k + 1 → wb j = false := fun h j hj => by
        by_cases he : j = k
        · rw [he]; exact h
        · exact hn j (by omega)
      clear h ha hr hat hno hys hsn hn
      by_cases c1 : a < 0
      · have e1 : decide (a < 0) = true := decide_eq_true c1
        rw [e1, Bool.true_or] at w1
        rw [hy1 w1]
        clear w1 w2 w3 hy1 hs1 hn1
        repeat (first | refine gG ?_ | refine zN1 (fun hlen => ?_) | refine zN2 (fun hlen => ?_) | refine zAl (fun _ => ?_) | refine zBf ?_ | refine zAp (fun _ => ?_))
        refine zIx k hk' ?_
        repeat (first | refine gG ?_ | refine zN1 (fun hlen => ?_) | refine zN2 (fun hlen => ?_) | refine zAl (fun _ => ?_) | refine zBf ?_ | refine zAp (fun _ => ?_))
        refine zEl1 hat1 ?_
        repeat (first | refine gG ?_ | refine zN1 (fun hlen => ?_) | refine zN2 (fun hlen => ?_) | refine zAl (fun _ => ?_) | refine zBf ?_ | refine zAp (fun _ => ?_))
        first | refine zR (ts := [nRow [], .lit (.int .i64 1)]) ?_ | refine zQ (ts := [nRow [], .lit (.int .i64 1)]) ?_
        rfl
      have e1 : decide (a < 0) = false := decide_eq_false c1
      rw [e1, Bool.false_or] at w1
      by_cases c2 : (r.length : Int) < a
      · have e2 : decide (((r.length : Nat) : Int) < a) = true := decide_eq_true c2
        rw [e2] at w1
        rw [hy1 w1]
        clear w1 w2 w3 hy1 hs1 hn1
        repeat (first | refine gG ?_ | refine zN1 (fun hlen => ?_) | refine zN2 (fun hlen => ?_) | refine zAl (fun _ => ?_) | refine zBf ?_ | refine zAp (fun _ => ?_))
        refine zIx k hk' ?_
        repeat (first | refine gG ?_ | refine zN1 (fun hlen => ?_) | refine zN2 (fun hlen => ?_) | refine zAl (fun _ => ?_) | refine zBf ?_ | refine zAp (fun _ => ?_))
        refine zEl1 hat1 ?_
        repeat (first | refine gG ?_ | refine zN1 (fun hlen => ?_) | refine zN2 (fun hlen => ?_) | refine zAl (fun _ => ?_) | refine zBf ?_ | refine zAp (fun _ => ?_))
        refine zIx k hkw ?_
        repeat (first | refine gG ?_ | refine zN1 (fun hlen => ?_) | refine zN2 (fun hlen => ?_) | refine zAl (fun _ => ?_) | refine zBf ?_ | refine zAp (fun _ => ?_))
        refine zEl1 hwt ?_
        repeat (first | refine gG ?_ | refine zN1 (fun hlen => ?_) | refine zN2 (fun hlen => ?_) | refine zAl (fun _ => ?_) | refine zBf ?_ | refine zAp (fun _ => ?_))
        first | refine zR (ts := [nRow [], .lit (.int .i64 1)]) ?_ | refine zQ (ts := [nRow [], .lit (.int .i64 1)]) ?_
        rfl
      have e2 : decide (((r.length : Nat) : Int) < a) = false := decide_eq_false c2
      rw [e2] at w1
      have hn2 := hn1 w1
      clear hn1 hy1 w1
      by_cases c3 : a = (r.length : Int)
      · have e3 : decide (a = ((r.length : Nat) : Int)) = true := decide_eq_true c3
        rw [w2 c3] at hs1
        clear w2 w3
        repeat (first | refine gG ?_ | refine zN1 (fun hlen => ?_) | refine zN2 (fun hlen => ?_) | refine zAl (fun _ => ?_) | refine zBf ?_ | refine zAp (fun _ => ?_))
        refine zIx k hk' ?_
        repeat (first | refine gG ?_ | refine zN1 (fun hlen => ?_) | refine zN2 (fun hlen => ?_) | refine zAl (fun _ => ?_) | refine zBf ?_ | refine zAp (fun _ => ?_))
        refine zEl1 hat1 ?_
        repeat (first | refine gG ?_ | refine zN1 (fun hlen => ?_) | refine zN2 (fun hlen => ?_) | refine zAl (fun _ => ?_) | refine zBf ?_ | refine zAp (fun _ => ?_))
        refine zIx k hkw ?_
        repeat (first | refine gG ?_ | refine zN1 (fun hlen => ?_) | refine zN2 (fun hlen => ?_) | refine zAl (fun _ => ?_) | refine zBf ?_ | refine zAp (fun _ => ?_))
        refine zEl1 hwt ?_
        repeat (first | refine gG ?_ | refine zN1 (fun hlen => ?_) | refine zN2 (fun hlen => ?_) | refine zAl (fun _ => ?_) | refine zBf ?_ | refine zAp (fun _ => ?_))
        refine zIx k hkw ?_
        repeat (first | refine gG ?_ | refine zN1 (fun hlen => ?_) | refine zN2 (fun hlen => ?_) | refine zAl (fun _ => ?_) | refine zBf ?_ | refine zAp (fun _ => ?_))
        refine zEl1 hwt ?_
        repeat (first | refine gG ?_ | refine zN1 (fun hlen => ?_) | refine zN2 (fun hlen => ?_) | refine zAl (fun _ => ?_) | refine zBf ?_ | refine zAp (fun _ => ?_))
        exact ⟨(k + 1, _), ⟨hk', hn2⟩, by simp only; omega, x_wkd 1 ⟨rfl, rfl, trivial⟩ (by simp only [hs1, List.flatMap_append]; rfl) (by repeat (first | exact ag_refl | refine ag_upd rfl ?_ | refine ag_at rfl rfl ?_))⟩
      · have e3 : decide (a = ((r.length : Nat) : Int)) = false := decide_eq_false c3
        obtain ⟨dd, j, ln, x1, x2, x3, x4, x5, x6, x7, x8, x9, x10⟩ := w3 (by omega) (by omega)
        rw [x6] at hs1
        obtain ⟨b, rfl⟩ : ∃ b : Nat, a = (b : Int) := ⟨a.toNat, by omega⟩
        rw [Int.toNat_natCast] at x1
        have hbr : b < r.length := by omega
        have hjl : j < ls.length := (List.getElem?_eq_some_iff.1 x3).1
        have p0 : (r.flatMap Dd.ts)[b * 3 + 0]? = some (.lit (.int .i64 dd.line)) := flat_get Dd.ts 3 Dd.ts_len x1 (j := 0) (by omega)
        rw [x2] at p0
        have hlt := flat_at Ln.ts 2 Ln.ts_len x3
        clear w2 w3 x1 x2 x3 x6 x4 x5
        obtain ⟨la, lb⟩ := ln
        dsimp only at *
        repeat (first | refine gG ?_ | refine zN1 (fun hlen => ?_) | refine zN2 (fun hlen => ?_) | refine zAl (fun _ => ?_) | refine zBf ?_ | refine zAp (fun _ => ?_))
        refine zIx k hk' ?_
        repeat (first | refine gG ?_ | refine zN1 (fun hlen => ?_) | refine zN2 (fun hlen => ?_) | refine zAl (fun _ => ?_) | refine zBf ?_ | refine zAp (fun _ => ?_))
        refine zEl1 hat1 ?_
        repeat (first | refine gG ?_ | refine zN1 (fun hlen => ?_) | refine zN2 (fun hlen => ?_) | refine zAl (fun _ => ?_) | refine zBf ?_ | refine zAp (fun _ => ?_))
        refine zIx k hkw ?_
        repeat (first | refine gG ?_ | refine zN1 (fun hlen => ?_) | refine zN2 (fun hlen => ?_) | refine zAl (fun _ => ?_) | refine zBf ?_ | refine zAp (fun _ => ?_))
        refine zEl1 hwt ?_
        repeat (first | refine gG ?_ | refine zN1 (fun hlen => ?_) | refine zN2 (fun hlen => ?_) | refine zAl (fun _ => ?_) | refine zBf ?_ | refine zAp (fun _ => ?_))
        refine zIx k hkw ?_
        repeat (first | refine gG ?_ | refine zN1 (fun hlen => ?_) | refine zN2 (fun hlen => ?_) | refine zAl (fun _ => ?_) | refine zBf ?_ | refine zAp (fun _ => ?_))
        refine zEl1 hwt ?_
        repeat (first | refine gG ?_ | refine zN1 (fun hlen => ?_) | refine zN2 (fun hlen => ?_) | refine zAl (fun _ => ?_) | refine zBf ?_ | refine zAp (fun _ => ?_))
        refine ac_draw [1, 1, 1, 1, 1, 1, 1, 1, 1, 1, 1, 1, 1, 3, 2] [0, 1, 2, 3, 4, 5, 6, 7, 8, 9, 10, 11, 12, 13, 14] (by kernel_rfl) (by kernel_rfl) ?_
        refine gW ?_
        apply w_q; (focus exact rfl); (focus exact rfl); focus (intro _; (refine zIx k hkw ?_); exact det_refl)
        apply w_q; (focus exact rfl); (focus exact rfl); focus (intro _; (refine zEl1 hwt ?_); exact det_refl)
        refine gW ?_
        apply w_q; (focus exact rfl); (focus exact rfl); focus (intro _; (refine zIx b hbr ?_); exact det_refl)
        refine gW ?_
        apply w_q; (focus exact rfl); (focus exact rfl); focus (intro _; (refine zEl1 p0 ?_); exact det_refl)
        apply w_q; (focus exact rfl); (focus exact rfl); focus (intro _; (refine zIx j hjl ?_); exact det_refl)
        apply w_q; (focus exact rfl); (focus exact rfl); focus (intro _; (refine zEl hlt (Ln.ts_len _) ?_); exact det_refl)
        apply w_a; (focus exact rfl); (focus exact rfl); refine v_alloc tok rfl rfl rfl (fun _ => rfl) (fun _ => ⟨⟨_, rfl⟩, ?_⟩)
        apply w_l; (focus exact rfl); (focus exact rfl); (refine zS ?_)
        refine w_nil ?_
        repeat (first | refine gG ?_ | refine zN1 (fun hlen => ?_) | refine zN2 (fun hlen => ?_) | refine zAl (fun _ => ?_) | refine zBf ?_ | refine zAp (fun _ => ?_))
        refine lo_add rfl rfl (r := la + lb) (by show IntKind.wrap .i64 (la + lb) = la + lb; rw [IntWalk.i64_in _ (by omega)]) ?_
        repeat (first | refine gG ?_ | refine zN1 (fun hlen => ?_) | refine zN2 (fun hlen => ?_) | refine zAl (fun _ => ?_) | refine zBf ?_ | refine zAp (fun _ => ?_))
        refine lo_sub rfl rfl (r := la + lb - (k : Int)) (by show IntKind.wrap .i64 (la + lb - (k : Int)) = la + lb - (k : Int); rw [IntWalk.i64_in _ (by omega)]) ?_
        repeat (first | refine gG ?_ | refine zN1 (fun hlen => ?_) | refine zN2 (fun hlen => ?_) | refine zAl (fun _ => ?_) | refine zBf ?_ | refine zAp (fun _ => ?_))
        exact ⟨(k + 1, _), ⟨hk', hn2⟩, by simp only; omega, x_wkd 1 ⟨rfl, rfl, trivial⟩ (by simp only [hs1, List.flatMap_append]; rfl) (by repeat (first | exact ag_refl | refine ag_upd rfl ?_ | refine ag_at rfl rfl ?_))⟩
    · have hk' : k = l.length := Nat.le_antisymm hk (Nat.le_of_not_lt (by simpa using h))
      subst hk'
      have hf := hno (fun j hj => hn j (by omega))
      rw [hf, if_neg Bool.false_ne_true]
      have hwl : (wt ws.length) = wt l.length := by rw [hlw]
      rw [hwl]
      have hln : l.length = (wt l.length).length := (hwtl l.length).symm
      clear h hat hsn hno hys hf hn
      repeat (first | refine gG ?_ | refine zN1 (fun hlen => ?_) | refine zN2 (fun hlen => ?_) | refine zAl (fun _ => ?_) | refine zBf ?_ | refine zAp (fun _ => ?_))
      first | refine zR (ts := [.row l.length 1 ((wt l.length).flatMap nTs), .lit (.int .i64 0)]) ?_ | refine zQ (ts := [.row l.length 1 ((wt l.length).flatMap nTs), .lit (.int .i64 0)]) ?_
      rw [show nRow (wt l.length) = .row l.length 1 ((wt l.length).flatMap nTs) by unfold nRow; rw [← hln]]; rfl
  · rw [if_neg hz, if_neg hz]
    have d0 : decide (netE n = 0) = false := decide_eq_false hz
    generalize netE n = e at *
    obtain ⟨ls, ws⟩ := n
    refine af_enter tok Try.func8 Try.ntmps8 Try.results8 rfl (by kernel_rfl) rfl rfl fun F hX => ?_
    repeat (first | refine gG ?_ | refine zN1 (fun hlen => ?_) | refine zN2 (fun hlen => ?_) | refine zAl (fun _ => ?_) | refine zBf ?_ | refine zAp (fun _ => ?_))
    refine zCall (hc) ?_
    rintro _ rfl
    repeat (first | refine gG ?_ | refine zN1 (fun hlen => ?_) | refine zN2 (fun hlen => ?_) | refine zAl (fun _ => ?_) | refine zBf ?_ | refine zAp (fun _ => ?_))
    first | refine zR (ts := [nRow [], .lit (.int .i64 e)]) ?_ | refine zQ (ts := [nRow [], .lit (.int .i64 e)]) ?_
    rfl
end Go.Proofs.Ytaoldigfefmamaa
namespace Go.Proofs.Ytaoldigfefmamaa
open Go.RowKit
theorem any_range_snoc (p : Nat → Bool) (k : Nat) : (List.range (k + 1)).any p = ((List.range k).any p || p k) := by
  rw [List.range_succ, List.any_append]; simp
set_option maxRecDepth 100000 in
set_option maxHeartbeats 4000000 in
theorem waiting_af (n : Nt) (hok : NOk n) (l : List Int) : AF Try.prog 15 [n.t3, nRow l] (· = .tup [nRow (waitR n l).1, .lit (.int .i64 (waitR n l).2)]) := by
  have hat := fun i a r => @wait_at n hok l i a r
  have hsn := waitTo_snoc n l
  have h0 : waitTo n l 0 = [] := rfl
  have h8 := hok.who8
  have hwtl := waitTo_len n l
  have hany := any_range_snoc (waitB n l)
  have hany0 : (List.range 0).any (waitB n l) = false := rfl
  unfold waitR
  generalize waitB n l = wb at *
  generalize waitV n l = wv at *
  generalize waitTo n l = wt at *
  obtain ⟨ls, ws⟩ := n
  clear hok
  dsimp only at *
  by_cases hlw : l.length = ws.length
  rotate_left
  · rw [if_neg hlw]
    have d1 : decide (((l.length : Nat) : Int) = ((ws.length : Nat) : Int)) = false := decide_eq_false (by omega)
    clear hat hsn h0 hany hany0
    refine af_enter tok Try.func15 Try.ntmps15 Try.results15 rfl (by kernel_rfl) rfl rfl fun F hX => ?_
    repeat (first | refine gG ?_ | refine zN1 (fun hlen => ?_) | refine zN2 (fun hlen => ?_) | refine zAl (fun _ => ?_) | refine zBf ?_ | refine zAp (fun _ => ?_))
    first | refine zR (ts := [nRow [], .lit (.int .i64 3)]) ?_ | refine zQ (ts := [nRow [], .lit (.int .i64 3)]) ?_
    rfl
  rw [if_pos hlw]
  have d1 : decide (((l.length : Nat) : Int) = ((ws.length : Nat) : Int)) = true := decide_eq_true (by omega)
  refine af_enter tok Try.func15 Try.ntmps15 Try.results15 rfl (by kernel_rfl) rfl rfl fun F hX => ?_
  repeat (first | refine gG ?_ | refine zN1 (fun hlen => ?_) | refine zN2 (fun hlen => ?_) | refine zAl (fun _ => ?_) | refine zBf ?_ | refine zAp (fun _ => ?_))
  refine x_own 6 3 1 rfl rfl rfl rfl rfl ?_
  refine x_loop [6, 7, 8, 9, 10, 11, 20, 21, 22, 23, 24, 25, 26, 27, 28, 29, 30, 31, 32, 33, 34, 35, 36, 37, 38, 39, 40, 41, 42, 43, 44, 45, 46, 47, 48, 49, 50, 51, 52, 53, 54, 55, 56, 57, 58, 59, 60, 61, 62, 63, 64, 65, 66, 67, 68, 69] (fun y : Nat × Value × List Int × Bool => [(20, .c (.lit (.int .i64 (y.1 : Nat)))), (6, .own 0 y.2.1), (7, .c (.lit (.bool y.2.2.2)))]) (fun y => [.row y.2.1 3 1 y.2.2.1.length (y.2.2.1.flatMap nTs)]) (fun y => y.1 ≤ l.length ∧ y.2.2.2 = (List.range y.1).any wb ∧ (y.2.2.2 = false → y.2.2.1 = wt y.1) ∧ y.2.2.1.length ≤ y.1) (fun y => l.length - y.1) (0, .slice none 0 0, [], false) ⟨Nat.zero_le _, hany0.symm, fun _ => h0.symm, Nat.le_refl _⟩ ⟨rfl, rfl, rfl, trivial⟩ rfl ?_
  clear h0 hany0
  rintro ⟨k, v, O, B⟩ ⟨hk, hB, hO, hOl⟩
  dsimp only at hk hB hO hOl ⊢
  repeat (first | refine gG ?_ | refine zN1 (fun hlen => ?_) | refine zN2 (fun hlen => ?_) | refine zAl (fun _ => ?_) | refine zBf ?_ | refine zAp (fun _ => ?_))
  refine x_cond rfl (fun h => ?_) (fun h => ?_)
  · have hk' : k < l.length := by simpa using h
    have hkw : k < ws.length := by omega
    obtain ⟨a, ha⟩ := nth hk'
    obtain ⟨r, hr⟩ := nth hkw
    have hat1 := n_at ha
    have hwt := who_at3 hr
    obtain ⟨w1, w2, w3⟩ := hat k a r ha hr
    have hs1 := hsn k
    have hB1 := hany k
    rw [← hB] at hB1
    clear h ha hr hat hsn hany hB
    by_cases c1 : a < 0
    · have e1 : decide (a < 0) = true := decide_eq_true c1
      rw [e1, Bool.true_or] at w1
      rw [w1, Bool.or_true] at hB1
      clear w1 w2 w3 hs1 hO
      repeat (first | refine zIxb 0 ?_ | refine zIxb 1 ?_ | refine zIxb 2 ?_ | refine gG ?_ | refine zN1 (fun hlen => ?_) | refine zN2 (fun hlen => ?_) | refine zAl (fun _ => ?_) | refine zBf ?_ | refine zAp (fun _ => ?_))
      refine zIx k hk' ?_
      repeat (first | refine zIxb 0 ?_ | refine zIxb 1 ?_ | refine zIxb 2 ?_ | refine gG ?_ | refine zN1 (fun hlen => ?_) | refine zN2 (fun hlen => ?_) | refine zAl (fun _ => ?_) | refine zBf ?_ | refine zAp (fun _ => ?_))
      refine zEl1 hat1 ?_
      repeat (first | refine zIxb 0 ?_ | refine zIxb 1 ?_ | refine zIxb 2 ?_ | refine gG ?_ | refine zN1 (fun hlen => ?_) | refine zN2 (fun hlen => ?_) | refine zAl (fun _ => ?_) | refine zBf ?_ | refine zAp (fun _ => ?_))
      exact ⟨(k + 1, v, O, true), ⟨hk', hB1.symm, (fun h => by cases h), by simp only; omega⟩, by simp only; omega, x_wkd 1 ⟨rfl, rfl, rfl, trivial⟩ rfl (by repeat (first | exact ag_refl | refine ag_upd rfl ?_ | refine ag_at rfl rfl ?_))⟩
    have e1 : decide (a < 0) = false := decide_eq_false c1
    rw [e1, Bool.false_or] at w1
    by_cases c2 : (r.length : Int) < a
    · have e2 : decide (((r.length : Nat) : Int) < a) = true := decide_eq_true c2
      rw [e2] at w1
      rw [w1, Bool.or_true] at hB1
      clear w1 w2 w3 hs1 hO
      repeat (first | refine zIxb 0 ?_ | refine zIxb 1 ?_ | refine zIxb 2 ?_ | refine gG ?_ | refine zN1 (fun hlen => ?_) | refine zN2 (fun hlen => ?_) | refine zAl (fun _ => ?_) | refine zBf ?_ | refine zAp (fun _ => ?_))
      refine zIx k hk' ?_
      repeat (first | refine zIxb 0 ?_ | refine zIxb 1 ?_ | refine zIxb 2 ?_ | refine gG ?_ | refine zN1 (fun hlen => ?_) | refine zN2 (fun hlen => ?_) | refine zAl (fun _ => ?_) | refine zBf ?_ | refine zAp (fun _ => ?_))
      refine zEl1 hat1 ?_
      repeat (first | refine zIxb 0 ?_ | refine zIxb 1 ?_ | refine zIxb 2 ?_ | refine gG ?_ | refine zN1 (fun hlen => ?_) | refine zN2 (fun hlen => ?_) | refine zAl (fun _ => ?_) | refine zBf ?_ | refine zAp (fun _ => ?_))
      refine zIx k hkw ?_
      repeat (first | refine zIxb 0 ?_ | refine zIxb 1 ?_ | refine zIxb 2 ?_ | refine gG ?_ | refine zN1 (fun hlen => ?_) | refine zN2 (fun hlen => ?_) | refine zAl (fun _ => ?_) | refine zBf ?_ | refine zAp (fun _ => ?_))
      refine zEl1 hwt ?_
      repeat (first | refine zIxb 0 ?_ | refine zIxb 1 ?_ | refine zIxb 2 ?_ | refine gG ?_ | refine zN1 (fun hlen => ?_) | refine zN2 (fun hlen => ?_) | refine zAl (fun _ => ?_) | refine zBf ?_ | refine zAp (fun _ => ?_))
      exact ⟨(k + 1, v, O, true), ⟨hk', hB1.symm, (fun h => by cases h), by simp only; omega⟩, by simp only; omega, x_wkd 1 ⟨rfl, rfl, rfl, trivial⟩ rfl (by repeat (first | exact ag_refl | refine ag_upd rfl ?_ | refine ag_at rfl rfl ?_))⟩
    have e2 : decide (((r.length : Nat) : Int) < a) = false := decide_eq_false c2
    rw [e2] at w1
    rw [w1, Bool.or_false] at hB1
    clear w1
    by_cases c3 : a = (r.length : Int)
    · have e3 : decide (a < ((r.length : Nat) : Int)) = false := decide_eq_false (by omega)
      rw [w2 c3] at hs1
      have hO1 : B = false → O ++ [-1] = wt (k + 1) := fun h => by rw [hs1, hO h]
      have hO2 : (O ++ [(-1 : Int)]).length ≤ k + 1 := by simp; omega
      clear w2 w3 hO
      repeat (first | refine zIxb 0 ?_ | refine zIxb 1 ?_ | refine zIxb 2 ?_ | refine gG ?_ | refine zN1 (fun hlen => ?_) | refine zN2 (fun hlen => ?_) | refine zAl (fun _ => ?_) | refine zBf ?_ | refine zAp (fun _ => ?_))
      refine zIx k hk' ?_
      repeat (first | refine zIxb 0 ?_ | refine zIxb 1 ?_ | refine zIxb 2 ?_ | refine gG ?_ | refine zN1 (fun hlen => ?_) | refine zN2 (fun hlen => ?_) | refine zAl (fun _ => ?_) | refine zBf ?_ | refine zAp (fun _ => ?_))
      refine zEl1 hat1 ?_
      repeat (first | refine zIxb 0 ?_ | refine zIxb 1 ?_ | refine zIxb 2 ?_ | refine gG ?_ | refine zN1 (fun hlen => ?_) | refine zN2 (fun hlen => ?_) | refine zAl (fun _ => ?_) | refine zBf ?_ | refine zAp (fun _ => ?_))
      refine zIx k hkw ?_
      repeat (first | refine zIxb 0 ?_ | refine zIxb 1 ?_ | refine zIxb 2 ?_ | refine gG ?_ | refine zN1 (fun hlen => ?_) | refine zN2 (fun hlen => ?_) | refine zAl (fun _ => ?_) | refine zBf ?_ | refine zAp (fun _ => ?_))
      refine zEl1 hwt ?_
      repeat (first | refine zIxb 0 ?_ | refine zIxb 1 ?_ | refine zIxb 2 ?_ | refine gG ?_ | refine zN1 (fun hlen => ?_) | refine zN2 (fun hlen => ?_) | refine zAl (fun _ => ?_) | refine zBf ?_ | refine zAp (fun _ => ?_))
      refine zIx k hkw ?_
      repeat (first | refine zIxb 0 ?_ | refine zIxb 1 ?_ | refine zIxb 2 ?_ | refine gG ?_ | refine zN1 (fun hlen => ?_) | refine zN2 (fun hlen => ?_) | refine zAl (fun _ => ?_) | refine zBf ?_ | refine zAp (fun _ => ?_))
      refine zEl1 hwt ?_
      repeat (first | refine zIxb 0 ?_ | refine zIxb 1 ?_ | refine zIxb 2 ?_ | refine gG ?_ | refine zN1 (fun hlen => ?_) | refine zN2 (fun hlen => ?_) | refine zAl (fun _ => ?_) | refine zBf ?_ | refine zAp (fun _ => ?_))
      exact ⟨(k + 1, _, O ++ [-1], B), ⟨hk', hB1.symm, hO1, hO2⟩, by simp only; omega, x_wkd 1 ⟨rfl, rfl, rfl, trivial⟩ (by simp only [List.flatMap_append, List.length_append]; rfl) (by repeat (first | exact ag_refl | refine ag_upd rfl ?_ | refine ag_at rfl rfl ?_))⟩
    · have e3 : decide (a < ((r.length : Nat) : Int)) = true := decide_eq_true (by omega)
      obtain ⟨dd, j, ln, x1, x2, x3, x4, x5, x6, x7, x8, x9, x10⟩ := w3 (by omega) (by omega)
      rw [x6] at hs1
      obtain ⟨b, rfl⟩ : ∃ b : Nat, a = (b : Int) := ⟨a.toNat, by omega⟩
      rw [Int.toNat_natCast] at x1
      have hbr : b < r.length := by omega
      have hjl : j < ls.length := (List.getElem?_eq_some_iff.1 x3).1
      have p0 : (r.flatMap Dd.ts3)[b * 3 + 0]? = some (.lit (.int .i64 dd.line)) := flat_get Dd.ts3 3 Dd.ts3_len x1 (j := 0) (by omega)
      rw [x2] at p0
      have hlt := flat_at Ln.ts 2 Ln.ts_len x3
      clear w2 w3 x1 x2 x3 x6
      obtain ⟨la, lb⟩ := ln
      dsimp only at *
      by_cases c4 : la = (k : Int)
      · have e4 : decide (la = ((k : Nat) : Int)) = true := decide_eq_true c4
        have hO1 : B = false → O ++ [lb] = wt (k + 1) := fun h => by rw [hs1, hO h, show la + lb - (k : Int) = lb by omega]
        have hO2 : (O ++ [lb]).length ≤ k + 1 := by simp; omega
        clear hO
        repeat (first | refine zIxb 0 ?_ | refine zIxb 1 ?_ | refine zIxb 2 ?_ | refine gG ?_ | refine zN1 (fun hlen => ?_) | refine zN2 (fun hlen => ?_) | refine zAl (fun _ => ?_) | refine zBf ?_ | refine zAp (fun _ => ?_))
        refine zIx k hk' ?_
        repeat (first | refine zIxb 0 ?_ | refine zIxb 1 ?_ | refine zIxb 2 ?_ | refine gG ?_ | refine zN1 (fun hlen => ?_) | refine zN2 (fun hlen => ?_) | refine zAl (fun _ => ?_) | refine zBf ?_ | refine zAp (fun _ => ?_))
        refine zEl1 hat1 ?_
        repeat (first | refine zIxb 0 ?_ | refine zIxb 1 ?_ | refine zIxb 2 ?_ | refine gG ?_ | refine zN1 (fun hlen => ?_) | refine zN2 (fun hlen => ?_) | refine zAl (fun _ => ?_) | refine zBf ?_ | refine zAp (fun _ => ?_))
        refine zIx k hkw ?_
        repeat (first | refine zIxb 0 ?_ | refine zIxb 1 ?_ | refine zIxb 2 ?_ | refine gG ?_ | refine zN1 (fun hlen => ?_) | refine zN2 (fun hlen => ?_) | refine zAl (fun _ => ?_) | refine zBf ?_ | refine zAp (fun _ => ?_))
        refine zEl1 hwt ?_
        repeat (first | refine zIxb 0 ?_ | refine zIxb 1 ?_ | refine zIxb 2 ?_ | refine gG ?_ | refine zN1 (fun hlen => ?_) | refine zN2 (fun hlen => ?_) | refine zAl (fun _ => ?_) | refine zBf ?_ | refine zAp (fun _ => ?_))
        refine zIx k hkw ?_
        repeat (first | refine zIxb 0 ?_ | refine zIxb 1 ?_ | refine zIxb 2 ?_ | refine gG ?_ | refine zN1 (fun hlen => ?_) | refine zN2 (fun hlen => ?_) | refine zAl (fun _ => ?_) | refine zBf ?_ | refine zAp (fun _ => ?_))
        refine zEl1 hwt ?_
        repeat (first | refine zIxb 0 ?_ | refine zIxb 1 ?_ | refine zIxb 2 ?_ | refine gG ?_ | refine zN1 (fun hlen => ?_) | refine zN2 (fun hlen => ?_) | refine zAl (fun _ => ?_) | refine zBf ?_ | refine zAp (fun _ => ?_))
        refine ac_draw [1, 1, 1, 1, 1, 1, 1, 1, 1, 1, 1, 1, 1, 3, 2] [0, 1, 2, 3, 4, 5, 6, 7, 8, 9, 10, 11, 12, 13, 14] (by kernel_rfl) (by kernel_rfl) ?_
        refine gW ?_
        apply w_q; (focus exact rfl); (focus exact rfl); focus (intro _; (refine zIx k hkw ?_); exact det_refl)
        apply w_q; (focus exact rfl); (focus exact rfl); focus (intro _; (refine zEl1 hwt ?_); exact det_refl)
        refine gW ?_
        apply w_q; (focus exact rfl); (focus exact rfl); focus (intro _; (refine zIx b hbr ?_); exact det_refl)
        apply w_q; (focus exact rfl); (focus exact rfl); focus (intro _; (refine zIxn 0 ?_); exact det_refl)
        apply w_q; (focus exact rfl); (focus exact rfl); focus (intro _; (refine zEl1 p0 ?_); exact det_refl)
        apply w_q; (focus exact rfl); (focus exact rfl); focus (intro _; (refine zIx j hjl ?_); exact det_refl)
        apply w_q; (focus exact rfl); (focus exact rfl); focus (intro _; (refine zEl hlt (Ln.ts_len _) ?_); exact det_refl)
        apply w_a; (focus exact rfl); (focus exact rfl); refine v_alloc tok rfl rfl rfl (fun _ => rfl) (fun _ => ⟨⟨_, rfl⟩, ?_⟩)
        apply w_l; (focus exact rfl); (focus exact rfl); (refine zS ?_)
        refine w_nil ?_
        repeat (first | refine zIxb 0 ?_ | refine zIxb 1 ?_ | refine zIxb 2 ?_ | refine gG ?_ | refine zN1 (fun hlen => ?_) | refine zN2 (fun hlen => ?_) | refine zAl (fun _ => ?_) | refine zBf ?_ | refine zAp (fun _ => ?_))
        exact ⟨(k + 1, _, O ++ [lb], B), ⟨hk', hB1.symm, hO1, hO2⟩, by simp only; omega, x_wkd 1 ⟨rfl, rfl, rfl, trivial⟩ (by simp only [List.flatMap_append, List.length_append]; rfl) (by repeat (first | exact ag_refl | refine ag_upd rfl ?_ | refine ag_at rfl rfl ?_))⟩
      · have e4 : decide (la = ((k : Nat) : Int)) = false := decide_eq_false c4
        have hO1 : B = false → O ++ [la] = wt (k + 1) := fun h => by rw [hs1, hO h, show la + lb - (k : Int) = la by omega]
        have hO2 : (O ++ [la]).length ≤ k + 1 := by simp; omega
        clear hO
        repeat (first | refine zIxb 0 ?_ | refine zIxb 1 ?_ | refine zIxb 2 ?_ | refine gG ?_ | refine zN1 (fun hlen => ?_) | refine zN2 (fun hlen => ?_) | refine zAl (fun _ => ?_) | refine zBf ?_ | refine zAp (fun _ => ?_))
        refine zIx k hk' ?_
        repeat (first | refine zIxb 0 ?_ | refine zIxb 1 ?_ | refine zIxb 2 ?_ | refine gG ?_ | refine zN1 (fun hlen => ?_) | refine zN2 (fun hlen => ?_) | refine zAl (fun _ => ?_) | refine zBf ?_ | refine zAp (fun _ => ?_))
        refine zEl1 hat1 ?_
        repeat (first | refine zIxb 0 ?_ | refine zIxb 1 ?_ | refine zIxb 2 ?_ | refine gG ?_ | refine zN1 (fun hlen => ?_) | refine zN2 (fun hlen => ?_) | refine zAl (fun _ => ?_) | refine zBf ?_ | refine zAp (fun _ => ?_))
        refine zIx k hkw ?_
        repeat (first | refine zIxb 0 ?_ | refine zIxb 1 ?_ | refine zIxb 2 ?_ | refine gG ?_ | refine zN1 (fun hlen => ?_) | refine zN2 (fun hlen => ?_) | refine zAl (fun _ => ?_) | refine zBf ?_ | refine zAp (fun _ => ?_))
        refine zEl1 hwt ?_
        repeat (first | refine zIxb 0 ?_ | refine zIxb 1 ?_ | refine zIxb 2 ?_ | refine gG ?_ | refine zN1 (fun hlen => ?_) | refine zN2 (fun hlen => ?_) | refine zAl (fun _ => ?_) | refine zBf ?_ | refine zAp (fun _ => ?_))
        refine zIx k hkw ?_
        repeat (first | refine zIxb 0 ?_ | refine zIxb 1 ?_ | refine zIxb 2 ?_ | refine gG ?_ | refine zN1 (fun hlen => ?_) | refine zN2 (fun hlen => ?_) | refine zAl (fun _ => ?_) | refine zBf ?_ | refine zAp (fun _ => ?_))
        refine zEl1 hwt ?_
        repeat (first | refine zIxb 0 ?_ | refine zIxb 1 ?_ | refine zIxb 2 ?_ | refine gG ?_ | refine zN1 (fun hlen => ?_) | refine zN2 (fun hlen => ?_) | refine zAl (fun _ => ?_) | refine zBf ?_ | refine zAp (fun _ => ?_))
        refine ac_draw [1, 1, 1, 1, 1, 1, 1, 1, 1, 1, 1, 1, 1, 3, 2] [0, 1, 2, 3, 4, 5, 6, 7, 8, 9, 10, 11, 12, 13, 14] (by kernel_rfl) (by kernel_rfl) ?_
        refine gW ?_
        apply w_q; (focus exact rfl); (focus exact rfl); focus (intro _; (refine zIx k hkw ?_); exact det_refl)
        apply w_q; (focus exact rfl); (focus exact rfl); focus (intro _; (refine zEl1 hwt ?_); exact det_refl)
        refine gW ?_
        apply w_q; (focus exact rfl); (focus exact rfl); focus (intro _; (refine zIx b hbr ?_); exact det_refl)
        apply w_q; (focus exact rfl); (focus exact rfl); focus (intro _; (refine zIxn 0 ?_); exact det_refl)
        apply w_q; (focus exact rfl); (focus exact rfl); focus (intro _; (refine zEl1 p0 ?_); exact det_refl)
        apply w_q; (focus exact rfl); (focus exact rfl); focus (intro _; (refine zIx j hjl ?_); exact det_refl)
        apply w_q; (focus exact rfl); (focus exact rfl); focus (intro _; (refine zEl hlt (Ln.ts_len _) ?_); exact det_refl)
        apply w_a; (focus exact rfl); (focus exact rfl); refine v_alloc tok rfl rfl rfl (fun _ => rfl) (fun _ => ⟨⟨_, rfl⟩, ?_⟩)
        apply w_l; (focus exact rfl); (focus exact rfl); (refine zS ?_)
        refine w_nil ?_
        repeat (first | refine zIxb 0 ?_ | refine zIxb 1 ?_ | refine zIxb 2 ?_ | refine gG ?_ | refine zN1 (fun hlen => ?_) | refine zN2 (fun hlen => ?_) | refine zAl (fun _ => ?_) | refine zBf ?_ | refine zAp (fun _ => ?_))
        exact ⟨(k + 1, _, O ++ [la], B), ⟨hk', hB1.symm, hO1, hO2⟩, by simp only; omega, x_wkd 1 ⟨rfl, rfl, rfl, trivial⟩ (by simp only [List.flatMap_append, List.length_append]; rfl) (by repeat (first | exact ag_refl | refine ag_upd rfl ?_ | refine ag_at rfl rfl ?_))⟩
  · have hk' : k = l.length := Nat.le_antisymm hk (Nat.le_of_not_lt (by simpa using h))
    subst hk'
    rw [← hlw, ← hB]
    clear h hat hsn hany hB
    cases B
    · rw [if_neg Bool.false_ne_true, ← hO rfl]
      repeat (first | refine gG ?_ | refine zN1 (fun hlen => ?_) | refine zN2 (fun hlen => ?_) | refine zAl (fun _ => ?_) | refine zBf ?_ | refine zAp (fun _ => ?_))
      first | refine zR (ts := [nRow O, .lit (.int .i64 0)]) ?_ | refine zQ (ts := [nRow O, .lit (.int .i64 0)]) ?_
      rfl
    · rw [if_pos rfl]
      repeat (first | refine gG ?_ | refine zN1 (fun hlen => ?_) | refine zN2 (fun hlen => ?_) | refine zAl (fun _ => ?_) | refine zBf ?_ | refine zAp (fun _ => ?_))
      first | refine zR (ts := [nRow [], .lit (.int .i64 1)]) ?_ | refine zQ (ts := [nRow [], .lit (.int .i64 1)]) ?_
      rfl
end Go.Proofs.Ytaoldigfefmamaa
namespace Go.Proofs.Ytaoldigfefmamaa
open Go.RowKit
def headAt (ws : List (List Dd)) (D : List Int) (w : Int) : Option Dd := (whoI ws w.toNat)[(atI D w.toNat).toNat]?
def rdyB (n : Nt) (D : List Int) (i : Nat) : Bool := match headAt n.who D (lnAt n.lines i).a, headAt n.who D (lnAt n.lines i).b with
  | some x, some y => decide (x.line = (i : Int)) && decide (y.line = (i : Int)) && meetB x y
  | _, _ => false
def rdyTo (n : Nt) (D : List Int) (k : Nat) : List Int := ((List.range k).filter (rdyB n D)).map natI
def rdyL (n : Nt) (D : List Int) : List Int := rdyTo n D n.lines.length
theorem rdyTo_yes {n : Nt} {D : List Int} {k : Nat} (h : rdyB n D k = true) : rdyTo n D (k + 1) = rdyTo n D k ++ [(k : Int)] := by
  unfold rdyTo
  rw [List.range_succ, List.filter_append, List.map_append]
  simp [h, natI]
theorem rdyTo_no {n : Nt} {D : List Int} {k : Nat} (h : rdyB n D k = false) : rdyTo n D (k + 1) = rdyTo n D k := by
  unfold rdyTo
  rw [List.range_succ, List.filter_append, List.map_append]
  simp [h]
theorem rdyTo_len (n : Nt) (D : List Int) (k : Nat) : (rdyTo n D k).length ≤ k := by
  unfold rdyTo
  rw [List.length_map]
  exact Nat.le_trans (List.length_filter_le _ _) (by simp)
theorem rdyL_at {n : Nt} {D : List Int} {j : Nat} {z : Int} (h : (rdyL n D)[j]? = some z) : ∃ i : Nat, z = (i : Int) ∧ i < n.lines.length ∧ rdyB n D i = true := by
  have := List.mem_of_getElem? h
  unfold rdyL rdyTo at this
  obtain ⟨i, hi, rfl⟩ := List.mem_map.1 this
  rw [List.mem_filter, List.mem_range] at hi
  exact ⟨i, rfl, hi.1, hi.2⟩
/-- how far everyone has come -/
structure Far (ws : List (List Dd)) (D : List Int) : Prop where
  len : D.length = ws.length
  le : ∀ {w : Nat} {r : List Dd}, ws[w]? = some r → ∃ d : Nat, D[w]? = some (d : Int) ∧ d ≤ r.length
theorem head_at {ws : List (List Dd)} {D : List Int} {w d : Nat} {r : List Dd} (hr : ws[w]? = some r) (hd : D[w]? = some (d : Int)) : headAt ws D (w : Int) = r[d]? := by
  unfold headAt
  rw [Int.toNat_natCast, whoI_eq hr, atI_eq hd, Int.toNat_natCast]
/-- a line at which two meet -/
theorem rdyB_at {n : Nt} {D : List Int} {i a b da db : Nat} {ra rb : List Dd} {l : Ln} (hl : n.lines[i]? = some l) (ha : l.a = (a : Int)) (hb : l.b = (b : Int)) (hra : n.who[a]? = some ra) (hrb : n.who[b]? = some rb) (hda : D[a]? = some (da : Int)) (hdb : D[b]? = some (db : Int)) :
    rdyB n D i = match ra[da]?, rb[db]? with
      | some x, some y => decide (x.line = (i : Int)) && decide (y.line = (i : Int)) && meetB x y
      | _, _ => false := by
  unfold rdyB
  rw [lnAt_eq hl, ha, hb, head_at hra hda, head_at hrb hdb]
def bump (D : List Int) (l : Ln) : List Int := ((D.set l.a.toNat (atI D l.a.toNat + 1)).set l.b.toNat (atI D l.b.toNat + 1))
def kOf (ps : List Int) (m : Nat) : Int := match ps with
  | [] => 0
  | p :: _ => IntKind.wrap .i64 (Int.tmod (IntKind.wrap .u64 p) (IntKind.wrap .u64 (m : Int)))
def chosenI (n : Nt) (D ps : List Int) : Int := atI (rdyL n D) (kOf ps (rdyL n D).length).toNat
def runS (n : Nt) : Nat → List Int → List Int → List Int → List Int × List Int
  | 0, D, _, ch => (ch, D)
  | f + 1, D, ps, ch => if (rdyL n D).length = 0 then (ch, D) else runS n f (bump D (lnAt n.lines (chosenI n D ps))) (ps.drop 1) (ch ++ [chosenI n D ps])
def zeros (m : Nat) : List Int := List.replicate m 0
def runR (n : Nt) (ps : List Int) : List Int × List Int := runS n 161 (zeros n.who.length) ps []
theorem sum_set : ∀ {D : List Int} {a : Nat} {x : Int}, D[a]? = some x → (D.set a (x + 1)).sum = D.sum + 1
  | [], _, _, h => by simp at h
  | y :: D, 0, x, h => by
    simp only [List.getElem?_cons_zero, Option.some.injEq] at h
    subst h
    simp only [List.set_cons_zero, List.sum_cons]
    omega
  | y :: D, a + 1, x, h => by
    have h2 : D[a]? = some x := by simpa using h
    simp only [List.set_cons_succ, List.sum_cons, sum_set h2]
    omega
theorem sum40_le {D : List Int} (h : ∀ x ∈ D, x ≤ 40) : D.sum ≤ 40 * D.length := by
  induction D with
  | nil => simp
  | cons y D ih =>
    have h1 := h y (by simp)
    have h2 := ih fun x hx => h x (List.mem_cons_of_mem _ hx)
    simp only [List.sum_cons, List.length_cons]
    omega
structure Going (n : Nt) (ps0 D ps ch : List Int) : Prop where
  far : Far n.who D
  sum : D.sum = 2 * (ch.length : Int)
  eq : runR n ps0 = runS n (161 - ch.length) D ps ch
theorem Far.small {n : Nt} (hok : NOk n) {D : List Int} (h : Far n.who D) : D.sum ≤ 320 := by
  have h1 := sum40_le (D := D) fun x hx => by
    obtain ⟨i, hi, rfl⟩ := List.getElem_of_mem hx
    obtain ⟨r, hr⟩ := nth (show i < n.who.length by rw [← h.len]; exact hi)
    obtain ⟨d, hd, hle⟩ := h.le hr
    have h40 := hok.dd40 hr
    rw [List.getElem?_eq_getElem hi] at hd
    have := Option.some.inj hd
    omega
  have h2 := h.len
  have h3 := hok.who8
  omega
theorem Going.len {n : Nt} (hok : NOk n) {ps0 D ps ch : List Int} (h : Going n ps0 D ps ch) : ch.length ≤ 160 := by
  have := h.far.small hok
  have := h.sum
  omega
theorem zeros_at {m i : Nat} (h : i < m) : (zeros m)[i]? = some ((0 : Nat) : Int) := by
  unfold zeros
  rw [List.getElem?_replicate, if_pos h]; rfl
theorem zeros_sum : ∀ m, (zeros m).sum = 0
  | 0 => rfl
  | m + 1 => by
    have := zeros_sum m
    unfold zeros at *
    rw [List.replicate_succ, List.sum_cons, this]; rfl
theorem far_zeros (ws : List (List Dd)) : Far ws (zeros ws.length) :=
  ⟨by simp [zeros], fun {w r} hr => ⟨0, zeros_at (List.getElem?_eq_some_iff.1 hr).1, Nat.zero_le _⟩⟩
theorem going_start (n : Nt) (ps : List Int) : Going n ps (zeros n.who.length) ps [] := ⟨far_zeros _, by rw [zeros_sum]; rfl, rfl⟩
theorem going_end {n : Nt} (hok : NOk n) {ps0 D ps ch : List Int} (h : Going n ps0 D ps ch) (hr : (rdyL n D).length = 0) : runR n ps0 = (ch, D) := by
  have h1 := h.len hok
  obtain ⟨f, hf⟩ : ∃ f, 161 - ch.length = f + 1 := ⟨160 - ch.length, by omega⟩
  rw [h.eq, hf, runS, if_pos hr]
theorem kOf_lt {ps : List Int} {m : Nat} (h0 : 0 < m) (hm : m ≤ 12) : 0 ≤ kOf ps m ∧ kOf ps m < m := by
  unfold kOf
  cases ps with
  | nil => simp; omega
  | cons p ps =>
    dsimp only
    have h1 : IntKind.wrap .u64 (m : Int) = (m : Int) := IntWalk.u64_in _ (by omega)
    have h2 : 0 ≤ IntKind.wrap .u64 p := by
      have : IntKind.wrap .u64 p = p % (2 ^ 64 : Int) := rfl
      rw [this]
      exact Int.emod_nonneg _ (by decide)
    rw [h1]
    have h3 : 0 ≤ Int.tmod (IntKind.wrap .u64 p) (m : Int) := Int.tmod_nonneg _ h2
    have h4 : Int.tmod (IntKind.wrap .u64 p) (m : Int) < (m : Int) := Int.tmod_lt_of_pos _ (by omega)
    rw [IntWalk.i64_in _ (by omega)]
    exact ⟨h3, h4⟩
end Go.Proofs.Ytaoldigfefmamaa
