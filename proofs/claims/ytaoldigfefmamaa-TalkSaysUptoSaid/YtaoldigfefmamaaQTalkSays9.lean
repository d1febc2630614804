/-
  Texts of this proof, part 9: Wth Wti.
-/
import Derived.Test.YtaoldigfefmamaaQTalkSays8
import Derived.Laws.IdiomRangeMap
import Derived.Lib.AppendStr
namespace Go.Proofs.Ytaoldigfefmamaa
open Go.RowKit
theorem lns_ok {n : Nt} (h : NOk n) : LnsOk n.who.length n.lines := fun _ _ hl => h.ln hl
theorem chR_cons {ls : List Ln} {m : List (Int × T)} {fr i x : Int} {r : List Int} (h : ChR ls m fr (i :: r) x) : x ≠ fr ∧ mget x m = some (.lit (.int .i64 i)) ∧ 0 ≤ i ∧ i < ls.length ∧ (x = (lnAt ls i).a ∨ x = (lnAt ls i).b) ∧ ChR ls m fr r ((lnAt ls i).a + (lnAt ls i).b - x) := h
set_option maxRecDepth 100000 in
set_option maxHeartbeats 8000000 in
theorem path_af (n : Nt) (hok : NOk n) (fr to but : Int) (hf : 0 ≤ fr ∧ fr < n.who.length) : AF Try.prog 25 [n.t, .lit (.int .i64 fr), .lit (.int .i64 to), .lit (.int .i64 but)] (· = .tup [nRow ((wayOf n fr to but).getD []), .lit (.bool (wayOf n fr to but).isSome)]) := by
  have hls := lns_ok hok
  have hls2 := lns_ok hok
  have hW0 := ws_init n fr to but hf
  have hB0 := by_init n.lines fr
  have hm8 := hok.who8
  have hl12 := hok.ln12
  generalize wayOf n fr to but = R at *
  obtain ⟨ls, ws⟩ := n
  dsimp only at *
  generalize ws.length = m at *
  clear hok
  refine af_enter tok Try.func25 Try.ntmps25 Try.results25 rfl (by kernel_rfl) rfl rfl fun F hX => ?_
  repeat (first | refine gX ?_ | refine zN1 (fun hlen => ?_) | refine zN2 (fun hlen => ?_) | refine zAl (fun _ => ?_) | refine zBf ?_ | refine zAp (fun _ => ?_))
  refine zMm (fun bm => ?_)
  repeat (first | refine gX ?_ | refine zN1 (fun hlen => ?_) | refine zN2 (fun hlen => ?_) | refine zAl (fun _ => ?_) | refine zBf ?_ | refine zAp (fun _ => ?_))
  refine zIni (l := []) 3 3 ?_
  repeat (first | refine gX ?_ | refine zN1 (fun hlen => ?_) | refine zN2 (fun hlen => ?_) | refine zAl (fun _ => ?_) | refine zBf ?_ | refine zAp (fun _ => ?_))
  refine zBo (fun v0 => ?_)
  repeat (first | refine gG ?_ | refine zN1 (fun hlen => ?_) | refine zN2 (fun hlen => ?_) | refine zAl (fun _ => ?_) | refine zBf ?_ | refine zAp (fun _ => ?_))
  refine x_loop [11, 12, 13, 14, 15, 16, 17, 26, 27, 28, 29, 30, 31, 32, 33, 34, 35, 36, 37, 38, 39, 40, 41, 42, 43, 44, 45, 46, 47, 48, 49, 50, 51, 52, 53, 54, 55, 56, 57, 58, 59, 60, 61, 62, 63, 64, 65, 66, 67, 68, 69, 70, 71, 72, 73, 74, 75, 76, 77, 78, 79, 80, 81, 82, 83, 84, 85, 86] (fun y : List (Int × T) × Value × (List (Int × List Int) × List Int) × (Int × List Int) => [(11, .own 1 y.2.1)]) (fun y => [.mp bm (mkeys (Value.int .i64) y.1), .row y.2.1 3 1 y.2.2.1.1.length ((y.2.2.1.1.map Prod.fst).flatMap nTs)])
    (fun y => WS m ls fr to but R y.2.2.1 ∧ ByOk ls fr y.1 y.2.2.2 y.2.2.1) (fun y => left m y.2.2.1) (mput fr (.lit (.int .i64 (-1))) [], v0, ([(fr, [])], [fr]), (fr, [])) ⟨hW0, hB0⟩ ⟨rfl, trivial⟩ rfl ?_
  clear hW0 hB0
  rintro ⟨M, v, ⟨Q, sn⟩, w0⟩ ⟨hW, hB⟩
  dsimp only at hW hB ⊢
  cases Q with
  | nil =>
    have hR := ws_none hW
    rw [hR]
    have d0 : decide ((0 : Int) < ((([] : List (Int × List Int)).length : Nat) : Int)) = false := rfl
    have d1 : decide (((([] : List (Int × List Int)).length : Nat) : Int) = 0) = true := rfl
    clear hR hW hB
    repeat (first | refine gG ?_ | refine zN1 (fun hlen => ?_) | refine zN2 (fun hlen => ?_) | refine zAl (fun _ => ?_) | refine zBf ?_ | refine zAp (fun _ => ?_))
    first | refine zR (ts := [nRow [], .lit (.bool false)]) ?_ | refine zQ (ts := [nRow [], .lit (.bool false)]) ?_
    rfl
  | cons w q =>
    have d0 : decide ((0 : Int) < (((w :: q).length : Nat) : Int)) = true := decide_eq_true (by simp only [List.length_cons]; omega)
    have d1 : decide ((((w :: q).length : Nat) : Int) = 0) = false := decide_eq_false (by simp only [List.length_cons]; omega)
    have hp0 : 0 < (w :: q).length := by simp
    have hat : (((w :: q).map Prod.fst).flatMap nTs)[0 * 1]? = some (.lit (.int .i64 w.1)) := rfl
    have hSW := ws_pop hW
    have hsl := hSW.seen.le
    have hws := hSW.wlen
    dsimp only at hsl hws
    by_cases hw : w.1 = to
    · have hR := ws_hit hW hw
      rw [hR]
      have hch := hB.ch w (by simp)
      have hrl : (w.2.reverse).length ≤ m := by rw [List.length_reverse]; omega
      have hrr : w.2 = w.2.reverse.reverse := by rw [List.reverse_reverse]
      rw [hrr]
      generalize w.2.reverse = rl0 at *
      have e0 : decide (w.1 = to) = true := decide_eq_true hw
      rw [hw] at hch
      clear hrr hR hW hB hSW hsl hws hw hls
      repeat (first | refine gG ?_ | refine zN1 (fun hlen => ?_) | refine zN2 (fun hlen => ?_) | refine zAl (fun _ => ?_) | refine zBf ?_ | refine zAp (fun _ => ?_))
      refine zIxo 0 hp0 ?_
      repeat (first | refine gG ?_ | refine zN1 (fun hlen => ?_) | refine zN2 (fun hlen => ?_) | refine zAl (fun _ => ?_) | refine zBf ?_ | refine zAp (fun _ => ?_))
      refine zElo1 hat ?_
      repeat (first | refine gG ?_ | refine zN1 (fun hlen => ?_) | refine zN2 (fun hlen => ?_) | refine zAl (fun _ => ?_) | refine zBf ?_ | refine zAp (fun _ => ?_))
      refine x_own 18 3 1 rfl rfl rfl rfl rfl ?_
      refine x_loop [18, 19, 20, 91, 92, 93, 94, 95, 96, 97, 98, 99, 100, 101, 102, 103, 104, 105, 106, 107, 108, 109, 110, 111, 112, 113, 114, 115] (fun y : Value × List Int × List Int × Int => [(18, .own 2 y.1), (19, .c (.lit (.int .i64 y.2.2.2)))]) (fun y => [.mp bm (mkeys (Value.int .i64) M), .row v 3 1 (w :: q).length (((w :: q).map Prod.fst).flatMap nTs), .row y.1 3 1 y.2.1.length (y.2.1.flatMap nTs)])
        (fun y => rl0 = y.2.1 ++ y.2.2.1 ∧ ChR ls M fr y.2.2.1 y.2.2.2) (fun y => y.2.2.1.length) (.slice none 0 0, [], rl0, to) ⟨rfl, hch⟩ ⟨rfl, rfl, trivial⟩ rfl ?_
      clear hch e0 hat
      rintro ⟨v2, out, rl, cur⟩ ⟨hr, hch⟩
      dsimp only at hr hch ⊢
      cases rl with
      | nil =>
        rw [List.append_nil] at hr
        subst hr
        have hcf : cur = fr := hch
        subst hcf
        have e1 : decide (cur = cur) = true := decide_eq_true rfl
        have hrev := reverse_ag rl0 v2 (by omega)
        clear hch
        repeat (first | refine gG ?_ | refine zN1 (fun hlen => ?_) | refine zN2 (fun hlen => ?_) | refine zAl (fun _ => ?_) | refine zBf ?_ | refine zAp (fun _ => ?_))
        refine zCallG [2] hrev ?_
        rintro _ _ ⟨rfl, rfl⟩
        refine ⟨.tup [], _, re_refl, rfl, rfl, ?_⟩
        repeat (first | refine gG ?_ | refine zN1 (fun hlen => ?_) | refine zN2 (fun hlen => ?_) | refine zAl (fun _ => ?_) | refine zBf ?_ | refine zAp (fun _ => ?_))
        first | refine zR (ts := [nRow rl0.reverse, .lit (.bool true)]) ?_ | refine zQ (ts := [nRow rl0.reverse, .lit (.bool true)]) ?_
        rfl
      | cons i r =>
        obtain ⟨h1, h2, h3, h4, h5, h6⟩ := chR_cons hch
        have e1 : decide (cur = fr) = false := decide_eq_false h1
        have hlk : (mget cur M).getD (.lit (.int .i64 0)) = .lit (.int .i64 i) := by rw [h2]; rfl
        obtain ⟨j, rfl⟩ : ∃ j : Nat, i = (j : Int) := ⟨i.toNat, by omega⟩
        have hjl : j < ls.length := by omega
        obtain ⟨l, hl⟩ := nth hjl
        rw [lnAt_eq hl] at h5 h6
        have p0 : (ls.flatMap Ln.ts)[j * 2 + 0]? = some (.lit (.int .i64 l.a)) := flat_get Ln.ts 2 Ln.ts_len hl (j := 0) (by omega)
        have p1 : (ls.flatMap Ln.ts)[j * 2 + 1]? = some (.lit (.int .i64 l.b)) := flat_get Ln.ts 2 Ln.ts_len hl (j := 1) (by omega)
        have hol : out.length ≤ 8 := by rw [hr, List.length_append] at hrl; omega
        have hrng := hls2 j l hl
        clear hch h1 h2 hl
        obtain ⟨la, lb⟩ := l
        dsimp only at *
        have hr2 : rl0 = (out ++ [((j : Nat) : Int)]) ++ r := by rw [hr]; simp
        clear hr
        repeat (first | refine gG ?_ | refine zN1 (fun hlen => ?_) | refine zN2 (fun hlen => ?_) | refine zAl (fun _ => ?_) | refine zBf ?_ | refine zAp (fun _ => ?_))
        refine zLki 3 3 hlk ?_
        repeat (first | refine gG ?_ | refine zN1 (fun hlen => ?_) | refine zN2 (fun hlen => ?_) | refine zAl (fun _ => ?_) | refine zBf ?_ | refine zAp (fun _ => ?_))
        refine ac_draw [1, 1, 1, 1, 1, 1, 1, 1, 1, 1, 1, 1, 1, 1, 1, 1] [0, 1, 2, 3, 4, 5, 6, 7, 8, 9, 10, 11, 12, 13, 14, 15] (by kernel_rfl) (by kernel_rfl) ?_
        refine gW ?_
        apply w_q; (focus exact rfl); (focus exact rfl); focus (intro _; (refine zIx j hjl ?_); exact det_refl)
        refine gW ?_
        apply w_q; (focus exact rfl); (focus exact rfl); focus (intro _; (refine zEl1 p0 ?_); exact det_refl)
        refine gW ?_
        apply w_q; (focus exact rfl); (focus exact rfl); focus (intro _; (refine zIx j hjl ?_); exact det_refl)
        refine gW ?_
        apply w_q; (focus exact rfl); (focus exact rfl); focus (intro _; (refine zEl1 p1 ?_); exact det_refl)
        apply w_q; (focus exact rfl); (focus exact rfl); focus (intro _; (refine lo_add rfl rfl (r := la + lb) (by show IntKind.wrap .i64 (la + lb) = la + lb; rw [IntWalk.i64_in _ (by omega)]) ?_); exact det_refl)
        refine gW ?_
        apply w_q; (focus exact rfl); (focus exact rfl); focus (intro _; (refine lo_sub rfl rfl (r := la + lb - cur) (by rw [IntWalk.i64_in _ (by omega)]) ?_); exact det_refl)
        refine gW ?_
        refine w_nil ?_
        repeat (first | refine gG ?_ | refine zN1 (fun hlen => ?_) | refine zN2 (fun hlen => ?_) | refine zAl (fun _ => ?_) | refine zBf ?_ | refine zAp (fun _ => ?_))
        exact ⟨(_, out ++ [((j : Nat) : Int)], r, la + lb - cur), ⟨hr2, h6⟩, by simp, x_wkd 3 ⟨rfl, rfl, trivial⟩ (by simp only [List.flatMap_append, List.length_append]; rfl) (by repeat (first | exact ag_refl | refine ag_upd rfl ?_ | refine ag_at rfl rfl ?_))⟩
    · obtain ⟨hW2, hlt⟩ := ws_step hls hW hw
      have hGS := fun k hk => (growTo_seen (but := but) hls hSW k hk).1
      have e0 : decide (w.1 = to) = false := decide_eq_false hw
      have hB2 := hB.pop
      have hwr := hSW.seen.rng w.1 hSW.mem
      have hg0 := growTo_zero ls but w (q, sn)
      have hgn := @growTo_snoc ls but w (q, sn)
      generalize growTo ls but w (q, sn) = G at *
      clear hW hB hSW hw hsl hws
      repeat (first | refine gG ?_ | refine zN1 (fun hlen => ?_) | refine zN2 (fun hlen => ?_) | refine zAl (fun _ => ?_) | refine zBf ?_ | refine zAp (fun _ => ?_))
      refine zIxo 0 hp0 ?_
      repeat (first | refine gG ?_ | refine zN1 (fun hlen => ?_) | refine zN2 (fun hlen => ?_) | refine zAl (fun _ => ?_) | refine zBf ?_ | refine zAp (fun _ => ?_))
      refine zElo1 hat ?_
      repeat (first | refine gG ?_ | refine zN1 (fun hlen => ?_) | refine zN2 (fun hlen => ?_) | refine zAl (fun _ => ?_) | refine zBf ?_ | refine zAp (fun _ => ?_))
      refine zIxo 0 hp0 ?_
      repeat (first | refine gG ?_ | refine zN1 (fun hlen => ?_) | refine zN2 (fun hlen => ?_) | refine zAl (fun _ => ?_) | refine zBf ?_ | refine zAp (fun _ => ?_))
      refine zElo1 hat ?_
      repeat (first | refine gG ?_ | refine zN1 (fun hlen => ?_) | refine zN2 (fun hlen => ?_) | refine zAl (fun _ => ?_) | refine zBf ?_ | refine zAp (fun _ => ?_))
      refine zQl (n := (w :: q).length) 1 hp0 (fun v1 => ?_)
      repeat (first | refine gG ?_ | refine zN1 (fun hlen => ?_) | refine zN2 (fun hlen => ?_) | refine zAl (fun _ => ?_) | refine zBf ?_ | refine zAp (fun _ => ?_))
      refine x_loop [11, 13, 14, 15, 16, 17, 44, 45, 46, 47, 48, 49, 50, 51, 52, 53, 54, 55, 56, 57, 58, 59, 60, 61, 62, 63, 64, 65, 66, 67, 68, 69, 70, 71, 72, 73, 74, 75, 76, 77, 78, 79, 80, 81, 82, 83, 84, 85, 86] (fun y : Nat × List (Int × T) × Value => [(44, .c (.lit (.int .i64 (y.1 : Nat)))), (11, .own 1 y.2.2)]) (fun y => [.mp bm (mkeys (Value.int .i64) y.2.1), .row y.2.2 3 1 (G y.1).1.length (((G y.1).1.map Prod.fst).flatMap nTs)])
        (fun y => y.1 ≤ ls.length ∧ ByOk ls fr y.2.1 w (G y.1)) (fun y => ls.length - y.1) (0, M, v1) ⟨Nat.zero_le _, by rw [hg0]; exact hB2⟩ ⟨rfl, rfl, trivial⟩ (by simp only [hg0]; rfl) ?_
      clear hB2 hat hp0 d0 d1 e0
      rintro ⟨k, M2, v2⟩ ⟨hk, hB⟩
      dsimp only at hk hB ⊢
      have hSk := hGS k hk
      have hqk : (G k).1.length ≤ 8 := by
        have := hSk.seen.len
        have := hSk.seen.le
        omega
      repeat (first | refine gG ?_ | refine zN1 (fun hlen => ?_) | refine zN2 (fun hlen => ?_) | refine zAl (fun _ => ?_) | refine zBf ?_ | refine zAp (fun _ => ?_))
      refine x_cond rfl (fun h => ?_) (fun h => ?_)
      · have hk' : k < ls.length := by simpa using h
        obtain ⟨l, hl⟩ := nth hk'
        have hlt2 := flat_at Ln.ts 2 Ln.ts_len hl
        have hrng := hls k l hl
        have hg1 := hgn hl
        have hnew := fun h1 h2 => hB.new (but := but) hSk hl h1 h2
        have hkey := hB.key (l.a + l.b - w.1)
        have hsame : grow but w (G k) (l, k) = G k → ByOk ls fr M2 w (G (k + 1)) := fun he => by rw [hg1, he]; exact hB
        have hgr : grow but w (G k) (l, k) = if (k : Int) = but ∨ (l.a ≠ w.1 ∧ l.b ≠ w.1) then G k else if l.a + l.b - w.1 ∈ (G k).2 then G k else ((G k).1 ++ [(l.a + l.b - w.1, w.2 ++ [(k : Int)])], (G k).2 ++ [l.a + l.b - w.1]) := rfl
        clear h hl hB hgn hls hg0 hSk hW2 hlt hGS
        obtain ⟨la, lb⟩ := l
        dsimp only at *
        by_cases p1 : ((k : Nat) : Int) = but
        · have e1 : decide (((k : Nat) : Int) = but) = true := decide_eq_true p1
          rw [if_pos (.inl p1)] at hgr
          have hb := hsame hgr
          rw [hgr] at hg1
          clear hsame hnew hkey hgr
          repeat (first | refine gG ?_ | refine zN1 (fun hlen => ?_) | refine zN2 (fun hlen => ?_) | refine zAl (fun _ => ?_) | refine zBf ?_ | refine zAp (fun _ => ?_))
          refine zIx (k) (hk') ?_
          repeat (first | refine gG ?_ | refine zN1 (fun hlen => ?_) | refine zN2 (fun hlen => ?_) | refine zAl (fun _ => ?_) | refine zBx (fun _ => ?_) | refine zAp (fun _ => ?_))
          refine zEl (hlt2) (Ln.ts_len _) ?_
          repeat (first | refine gG ?_ | refine zN1 (fun hlen => ?_) | refine zN2 (fun hlen => ?_) | refine zAl (fun _ => ?_) | refine zBf ?_ | refine zAp (fun _ => ?_))
          exact ⟨(k + 1, M2, v2), ⟨hk', hb⟩, by simp only; omega, x_wkd 2 ⟨rfl, rfl, trivial⟩ (by simp only [hg1]; rfl) (by repeat (first | exact ag_refl | refine ag_upd rfl ?_ | refine ag_at rfl rfl ?_))⟩
        have e1 : decide (((k : Nat) : Int) = but) = false := decide_eq_false p1
        by_cases p2 : la ≠ w.1 ∧ lb ≠ w.1
        · have e2 : decide (la = w.1) = false := decide_eq_false p2.1
          have e3 : decide (lb = w.1) = false := decide_eq_false p2.2
          rw [if_pos (.inr p2)] at hgr
          have hb := hsame hgr
          rw [hgr] at hg1
          clear hsame hnew hkey hgr
          repeat (first | refine gG ?_ | refine zN1 (fun hlen => ?_) | refine zN2 (fun hlen => ?_) | refine zAl (fun _ => ?_) | refine zBf ?_ | refine zAp (fun _ => ?_))
          refine zIx (k) (hk') ?_
          repeat (first | refine gG ?_ | refine zN1 (fun hlen => ?_) | refine zN2 (fun hlen => ?_) | refine zAl (fun _ => ?_) | refine zBx (fun _ => ?_) | refine zAp (fun _ => ?_))
          refine zEl (hlt2) (Ln.ts_len _) ?_
          repeat (first | refine gG ?_ | refine zN1 (fun hlen => ?_) | refine zN2 (fun hlen => ?_) | refine zAl (fun _ => ?_) | refine zBf ?_ | refine zAp (fun _ => ?_))
          exact ⟨(k + 1, M2, v2), ⟨hk', hb⟩, by simp only; omega, x_wkd 2 ⟨rfl, rfl, trivial⟩ (by simp only [hg1]; rfl) (by repeat (first | exact ag_refl | refine ag_upd rfl ?_ | refine ag_at rfl rfl ?_))⟩
        have p3 : ¬ (((k : Nat) : Int) = but ∨ (la ≠ w.1 ∧ lb ≠ w.1)) := fun h => h.elim p1 p2
        rw [if_neg p3] at hgr
        obtain ⟨t, ht⟩ : ∃ t, (mget (la + lb - w.1) M2).getD (.lit (.int .i64 0)) = t := ⟨_, rfl⟩
        have p4 : la = w.1 ∨ (¬ la = w.1 ∧ lb = w.1) := by
          by_cases ha : la = w.1
          · exact .inl ha
          · by_cases hb : lb = w.1
            · exact .inr ⟨ha, hb⟩
            · exact absurd ⟨ha, hb⟩ p2
        by_cases p5 : la + lb - w.1 ∈ (G k).2
        · rw [if_pos p5] at hgr
          rw [decide_eq_true p5] at hkey
          have hb := hsame hgr
          rw [hgr] at hg1
          clear hsame hnew hgr p5 p3 p2
          rcases p4 with p4 | ⟨p4, p6⟩
          · have e2 : decide (la = w.1) = true := decide_eq_true p4
            repeat (first | refine gG ?_ | refine zN1 (fun hlen => ?_) | refine zN2 (fun hlen => ?_) | refine zAl (fun _ => ?_) | refine zBf ?_ | refine zAp (fun _ => ?_))
            refine zIx (k) (hk') ?_
            repeat (first | refine gG ?_ | refine zN1 (fun hlen => ?_) | refine zN2 (fun hlen => ?_) | refine zAl (fun _ => ?_) | refine zBx (fun _ => ?_) | refine zAp (fun _ => ?_))
            refine zEl (hlt2) (Ln.ts_len _) ?_
            repeat (first | refine gG ?_ | refine zN1 (fun hlen => ?_) | refine zN2 (fun hlen => ?_) | refine zAl (fun _ => ?_) | refine zBf ?_ | refine zAp (fun _ => ?_))
            refine lo_add rfl rfl (r := la + lb) (by show IntKind.wrap .i64 (la + lb) = la + lb; rw [IntWalk.i64_in _ (by omega)]) ?_
            repeat (first | refine gG ?_ | refine zN1 (fun hlen => ?_) | refine zN2 (fun hlen => ?_) | refine zAl (fun _ => ?_) | refine zBf ?_ | refine zAp (fun _ => ?_))
            refine lo_sub rfl rfl (r := la + lb - w.1) (by show IntKind.wrap .i64 (la + lb - w.1) = la + lb - w.1; rw [IntWalk.i64_in _ (by omega)]) ?_
            repeat (first | refine gG ?_ | refine zN1 (fun hlen => ?_) | refine zN2 (fun hlen => ?_) | refine zAl (fun _ => ?_) | refine zBf ?_ | refine zAp (fun _ => ?_))
            refine zLkio 3 3 ht hkey ?_
            repeat (first | refine gG ?_ | refine zN1 (fun hlen => ?_) | refine zN2 (fun hlen => ?_) | refine zAl (fun _ => ?_) | refine zBf ?_ | refine zAp (fun _ => ?_))
            exact ⟨(k + 1, M2, v2), ⟨hk', hb⟩, by simp only; omega, x_wkd 2 ⟨rfl, rfl, trivial⟩ (by simp only [hg1]; rfl) (by repeat (first | exact ag_refl | refine ag_upd rfl ?_ | refine ag_at rfl rfl ?_))⟩
          · have e2 : decide (la = w.1) = false := decide_eq_false p4
            have e3 : decide (lb = w.1) = true := decide_eq_true p6
            repeat (first | refine gG ?_ | refine zN1 (fun hlen => ?_) | refine zN2 (fun hlen => ?_) | refine zAl (fun _ => ?_) | refine zBf ?_ | refine zAp (fun _ => ?_))
            refine zIx (k) (hk') ?_
            repeat (first | refine gG ?_ | refine zN1 (fun hlen => ?_) | refine zN2 (fun hlen => ?_) | refine zAl (fun _ => ?_) | refine zBx (fun _ => ?_) | refine zAp (fun _ => ?_))
            refine zEl (hlt2) (Ln.ts_len _) ?_
            repeat (first | refine gG ?_ | refine zN1 (fun hlen => ?_) | refine zN2 (fun hlen => ?_) | refine zAl (fun _ => ?_) | refine zBf ?_ | refine zAp (fun _ => ?_))
            refine lo_add rfl rfl (r := la + lb) (by show IntKind.wrap .i64 (la + lb) = la + lb; rw [IntWalk.i64_in _ (by omega)]) ?_
            repeat (first | refine gG ?_ | refine zN1 (fun hlen => ?_) | refine zN2 (fun hlen => ?_) | refine zAl (fun _ => ?_) | refine zBf ?_ | refine zAp (fun _ => ?_))
            refine lo_sub rfl rfl (r := la + lb - w.1) (by show IntKind.wrap .i64 (la + lb - w.1) = la + lb - w.1; rw [IntWalk.i64_in _ (by omega)]) ?_
            repeat (first | refine gG ?_ | refine zN1 (fun hlen => ?_) | refine zN2 (fun hlen => ?_) | refine zAl (fun _ => ?_) | refine zBf ?_ | refine zAp (fun _ => ?_))
            refine zLkio 3 3 ht hkey ?_
            repeat (first | refine gG ?_ | refine zN1 (fun hlen => ?_) | refine zN2 (fun hlen => ?_) | refine zAl (fun _ => ?_) | refine zBf ?_ | refine zAp (fun _ => ?_))
            exact ⟨(k + 1, M2, v2), ⟨hk', hb⟩, by simp only; omega, x_wkd 2 ⟨rfl, rfl, trivial⟩ (by simp only [hg1]; rfl) (by repeat (first | exact ag_refl | refine ag_upd rfl ?_ | refine ag_at rfl rfl ?_))⟩
        · have hb := hnew p3 p5
          rw [← hg1] at hb
          rw [if_neg p5] at hgr
          rw [decide_eq_false p5] at hkey
          rw [hgr] at hg1
          clear hsame hnew hgr p5 p3 p2
          rcases p4 with p4 | ⟨p4, p6⟩
          · have e2 : decide (la = w.1) = true := decide_eq_true p4
            repeat (first | refine gG ?_ | refine zN1 (fun hlen => ?_) | refine zN2 (fun hlen => ?_) | refine zAl (fun _ => ?_) | refine zBf ?_ | refine zAp (fun _ => ?_))
            refine zIx (k) (hk') ?_
            repeat (first | refine gG ?_ | refine zN1 (fun hlen => ?_) | refine zN2 (fun hlen => ?_) | refine zAl (fun _ => ?_) | refine zBx (fun _ => ?_) | refine zAp (fun _ => ?_))
            refine zEl (hlt2) (Ln.ts_len _) ?_
            repeat (first | refine gG ?_ | refine zN1 (fun hlen => ?_) | refine zN2 (fun hlen => ?_) | refine zAl (fun _ => ?_) | refine zBf ?_ | refine zAp (fun _ => ?_))
            refine lo_add rfl rfl (r := la + lb) (by show IntKind.wrap .i64 (la + lb) = la + lb; rw [IntWalk.i64_in _ (by omega)]) ?_
            repeat (first | refine gG ?_ | refine zN1 (fun hlen => ?_) | refine zN2 (fun hlen => ?_) | refine zAl (fun _ => ?_) | refine zBf ?_ | refine zAp (fun _ => ?_))
            refine lo_sub rfl rfl (r := la + lb - w.1) (by show IntKind.wrap .i64 (la + lb - w.1) = la + lb - w.1; rw [IntWalk.i64_in _ (by omega)]) ?_
            repeat (first | refine gG ?_ | refine zN1 (fun hlen => ?_) | refine zN2 (fun hlen => ?_) | refine zAl (fun _ => ?_) | refine zBf ?_ | refine zAp (fun _ => ?_))
            refine zLkio 3 3 ht hkey ?_
            repeat (first | refine gG ?_ | refine zN1 (fun hlen => ?_) | refine zN2 (fun hlen => ?_) | refine zAl (fun _ => ?_) | refine zBf ?_ | refine zAp (fun _ => ?_))
            refine zUpi 3 3 ?_
            repeat (first | refine gG ?_ | refine zN1 (fun hlen => ?_) | refine zN2 (fun hlen => ?_) | refine zAl (fun _ => ?_) | refine zBf ?_ | refine zAp (fun _ => ?_))
            exact ⟨(k + 1, _, _), ⟨hk', hb⟩, by simp only; omega, x_wkd 2 ⟨rfl, rfl, trivial⟩ (by simp only [hg1, List.map_append, List.flatMap_append, List.length_append]; rfl) (by repeat (first | exact ag_refl | refine ag_upd rfl ?_ | refine ag_at rfl rfl ?_))⟩
          · have e2 : decide (la = w.1) = false := decide_eq_false p4
            have e3 : decide (lb = w.1) = true := decide_eq_true p6
            repeat (first | refine gG ?_ | refine zN1 (fun hlen => ?_) | refine zN2 (fun hlen => ?_) | refine zAl (fun _ => ?_) | refine zBf ?_ | refine zAp (fun _ => ?_))
            refine zIx (k) (hk') ?_
            repeat (first | refine gG ?_ | refine zN1 (fun hlen => ?_) | refine zN2 (fun hlen => ?_) | refine zAl (fun _ => ?_) | refine zBx (fun _ => ?_) | refine zAp (fun _ => ?_))
            refine zEl (hlt2) (Ln.ts_len _) ?_
            repeat (first | refine gG ?_ | refine zN1 (fun hlen => ?_) | refine zN2 (fun hlen => ?_) | refine zAl (fun _ => ?_) | refine zBf ?_ | refine zAp (fun _ => ?_))
            refine lo_add rfl rfl (r := la + lb) (by show IntKind.wrap .i64 (la + lb) = la + lb; rw [IntWalk.i64_in _ (by omega)]) ?_
            repeat (first | refine gG ?_ | refine zN1 (fun hlen => ?_) | refine zN2 (fun hlen => ?_) | refine zAl (fun _ => ?_) | refine zBf ?_ | refine zAp (fun _ => ?_))
            refine lo_sub rfl rfl (r := la + lb - w.1) (by show IntKind.wrap .i64 (la + lb - w.1) = la + lb - w.1; rw [IntWalk.i64_in _ (by omega)]) ?_
            repeat (first | refine gG ?_ | refine zN1 (fun hlen => ?_) | refine zN2 (fun hlen => ?_) | refine zAl (fun _ => ?_) | refine zBf ?_ | refine zAp (fun _ => ?_))
            refine zLkio 3 3 ht hkey ?_
            repeat (first | refine gG ?_ | refine zN1 (fun hlen => ?_) | refine zN2 (fun hlen => ?_) | refine zAl (fun _ => ?_) | refine zBf ?_ | refine zAp (fun _ => ?_))
            refine zUpi 3 3 ?_
            repeat (first | refine gG ?_ | refine zN1 (fun hlen => ?_) | refine zN2 (fun hlen => ?_) | refine zAl (fun _ => ?_) | refine zBf ?_ | refine zAp (fun _ => ?_))
            exact ⟨(k + 1, _, _), ⟨hk', hb⟩, by simp only; omega, x_wkd 2 ⟨rfl, rfl, trivial⟩ (by simp only [hg1, List.map_append, List.flatMap_append, List.length_append]; rfl) (by repeat (first | exact ag_refl | refine ag_upd rfl ?_ | refine ag_at rfl rfl ?_))⟩
      · have hk' : k = ls.length := Nat.le_antisymm hk (Nat.le_of_not_lt (by simpa using h))
        subst hk'
        clear h hgn hls hg0 hSk hGS
        repeat (first | refine gG ?_ | refine zN1 (fun hlen => ?_) | refine zN2 (fun hlen => ?_) | refine zAl (fun _ => ?_) | refine zBf ?_ | refine zAp (fun _ => ?_))
        exact ⟨(M2, v2, G ls.length, w), ⟨hW2, hB⟩, hlt, x_wkd 2 ⟨rfl, trivial⟩ rfl (by repeat (first | exact ag_refl | refine ag_upd rfl ?_ | refine ag_at rfl rfl ?_))⟩
end Go.Proofs.Ytaoldigfefmamaa
namespace Go.Proofs.Ytaoldigfefmamaa
open Go.RowKit
def nAll (l : List Int) : List T := l.flatMap nTs
theorem nAll_app (a b : List Int) : nAll (a ++ b) = nAll a ++ nAll b := by simp [nAll]
set_option maxRecDepth 100000 in
set_option maxHeartbeats 1000000 in
theorem growN_ag (n : Nat) (hn : n ≤ 1048576) : AG Try.prog 38 [.c (.lit (.slice none 0 0)), .c (.lit (.int .i64 (n : Nat)))] [] (fun r hs => ∃ v', r = .own 0 v' ∧ hs = [.row v' 3 1 0 []]) := by
  have d0 : decide (((n : Nat) : Int) < 0) = false := decide_eq_false (by omega)
  rcases Nat.eq_zero_or_pos n with rfl | h0
  · have d1 : decide ((0 : Int) < (((0 : Nat) : Nat) : Int) - (0 - 0)) = false := rfl
    refine ag_enter 2 tok Try.func38 Try.ntmps38 Try.results38 rfl (by kernel_rfl) rfl fun F => ?_
    repeat (first | refine gO ?_ | refine zSub ?_ | refine zCap0 ?_ | refine ac_seq ?_ | refine ac_block ?_ | refine ac_region ?_ | refine ac_skip ?_ | refine zT ?_ | refine zF ?_)
    refine x_own 4 3 1 rfl rfl rfl rfl rfl ?_
    repeat (first | refine gG ?_ | refine zN1 (fun hlen => ?_) | refine zN2 (fun hlen => ?_) | refine zSub ?_ | refine zAp (fun _ => ?_))
    refine zG ?_
    exact ⟨_, rfl, rfl⟩
  · have d1 : decide ((0 : Int) < ((n : Nat) : Int) - (0 - 0)) = true := decide_eq_true (by omega)
    refine ag_enter 2 tok Try.func38 Try.ntmps38 Try.results38 rfl (by kernel_rfl) rfl fun F => ?_
    repeat (first | refine gG ?_ | refine zSub ?_ | refine zCap0 ?_ | refine zHn ?_)
    refine zAp0 n h0 hn (fun _ ts => ?_)
    repeat (first | refine gG ?_ | refine zSub ?_ | refine zCap0 ?_ | refine zHn ?_)
    refine zQh (n := n) 0 (Nat.zero_le _) (fun _ => ?_)
    repeat (first | refine gG ?_ | refine zN1 (fun hlen => ?_) | refine zN2 (fun hlen => ?_) | refine zSub ?_ | refine zAp (fun _ => ?_))
    refine zG ?_
    exact ⟨_, rfl, rfl⟩
theorem catN_at {L : List (List Int)} {k : Nat} {a : List Int} (h : L[k]? = some a) : (L.map fun x => nRow x)[k * 1]? = some (nRow a) := by simp [h]
set_option maxRecDepth 100000 in
set_option maxHeartbeats 1000000 in
theorem concatN_af (L : List (List Int)) (hL : L.flatten.length ≤ 1048576) (hl : L.length ≤ 1048576) : AF Try.prog 32 [.row L.length 1 (L.map fun x => nRow x)] (· = nRow L.flatten) := by
  have hg := growN_ag L.flatten.length hL
  refine af_enter tok Try.func32 Try.ntmps32 Try.results32 rfl (by kernel_rfl) rfl rfl fun F hX => ?_
  repeat (first | refine gG ?_ | refine zN1 (fun hlen => ?_) | refine zN2 (fun hlen => ?_) | refine zAp (fun _ => ?_))
  refine x_loop [3, 5, 11, 12, 13, 14, 15, 16, 17, 18, 19, 20, 21, 22] (fun k : Nat => [(11, .c (.lit (.int .i64 (k : Nat)))), (3, .c (.lit (.int .i64 ((L.take k).flatten.length : Nat))))]) (fun _ => []) (fun k => k ≤ L.length) (fun k => L.length - k) 0 (Nat.zero_le _) ⟨rfl, rfl, trivial⟩ rfl ?_
  intro k hk
  repeat (first | refine gG ?_ | refine zN1 (fun hlen => ?_) | refine zN2 (fun hlen => ?_) | refine zAp (fun _ => ?_))
  refine x_cond rfl (fun h => ?_) (fun h => ?_)
  · have hk' : k < L.length := by simpa using h
    obtain ⟨a, ha⟩ := nth hk'
    have hat := catN_at ha
    have hsn : (L.take (k + 1)).flatten.length = (L.take k).flatten.length + a.length := by rw [List.take_add_one, ha]; simp
    have hle : (L.take (k + 1)).flatten.length ≤ L.flatten.length := by
      have := congrArg (fun r => r.flatten.length) (List.take_append_drop (k + 1) L)
      simp only [List.flatten_append, List.length_append] at this
      omega
    have d0 : decide ((((L.take k).flatten.length + a.length : Nat) : Int) < 0) = false := decide_eq_false (by omega)
    clear h ha
    repeat (first | refine gG ?_ | refine zN1 (fun hlen => ?_) | refine zN2 (fun hlen => ?_) | refine zAp (fun _ => ?_))
    refine zIx k hk' ?_
    repeat (first | refine gG ?_ | refine zN1 (fun hlen => ?_) | refine zN2 (fun hlen => ?_) | refine zAp (fun _ => ?_))
    refine zEl1 hat ?_
    repeat (first | refine gA ?_ | refine zN1 (fun hlen => ?_) | refine zN2 (fun hlen => ?_))
    exact ⟨k + 1, hk', by omega, x_wkd 0 ⟨rfl, by rw [hsn]; rfl, trivial⟩ rfl (by repeat (first | exact ag_refl | refine ag_upd rfl ?_ | refine ag_at rfl rfl ?_))⟩
  have hk' : k = L.length := by
    have : ¬ k < L.length := by simpa using h
    omega
  subst hk'
  clear h hk
  rw [List.take_length]
  repeat (first | refine gG ?_ | refine zN1 (fun hlen => ?_) | refine zN2 (fun hlen => ?_) | refine zAp (fun _ => ?_))
  refine zCallG [] hg ?_
  rintro _ _ ⟨v', rfl, rfl⟩
  refine ⟨.own 0 v', _, re_own, rfl, rfl, ?_⟩
  clear hg
  repeat (first | refine gG ?_ | refine zN1 (fun hlen => ?_) | refine zN2 (fun hlen => ?_) | refine zAp (fun _ => ?_))
  refine x_loop [6, 8, 27, 28, 29, 30, 31, 32, 33, 34] (fun y : Nat × Value => [(27, .c (.lit (.int .i64 (y.1 : Nat)))), (6, .own 0 y.2)]) (fun y => [.row y.2 3 1 (L.take y.1).flatten.length (nAll (L.take y.1).flatten)]) (fun y => y.1 ≤ L.length) (fun y => L.length - y.1) (0, v') (Nat.zero_le _) ⟨rfl, rfl, trivial⟩ rfl ?_
  rintro ⟨k, v⟩ hk
  dsimp only at hk ⊢
  repeat (first | refine gG ?_ | refine zN1 (fun hlen => ?_) | refine zN2 (fun hlen => ?_) | refine zAp (fun _ => ?_))
  refine x_cond rfl (fun h => ?_) (fun h => ?_)
  · have hk' : k < L.length := by simpa using h
    obtain ⟨a, ha⟩ := nth hk'
    have hat := catN_at ha
    have hsn : (L.take (k + 1)).flatten = (L.take k).flatten ++ a := by rw [List.take_add_one, ha]; simp
    have hle : (L.take (k + 1)).flatten.length ≤ L.flatten.length := by
      have := congrArg (fun r => r.flatten.length) (List.take_append_drop (k + 1) L)
      simp only [List.flatten_append, List.length_append] at this
      omega
    have hl1 : (L.take (k + 1)).flatten.length = (L.take k).flatten.length + a.length := by rw [hsn, List.length_append]
    have hc1 : nAll (L.take (k + 1)).flatten = nAll (L.take k).flatten ++ nAll a := by rw [hsn]; exact nAll_app _ _
    clear h ha hsn
    repeat (first | refine gG ?_ | refine zN1 (fun hlen => ?_) | refine zN2 (fun hlen => ?_) | refine zAp (fun _ => ?_))
    refine zIx k hk' ?_
    repeat (first | refine gG ?_ | refine zN1 (fun hlen => ?_) | refine zN2 (fun hlen => ?_) | refine zAp (fun _ => ?_))
    refine zEl1 hat ?_
    repeat (first | refine gG ?_ | refine zN1 (fun hlen => ?_) | refine zN2 (fun hlen => ?_) | refine zAp (fun _ => ?_))
    exact ⟨(k + 1, _), hk', by simp only; omega, x_wkd 1 ⟨rfl, rfl, trivial⟩ (by simp only [hl1, hc1]; rfl) (by repeat (first | exact ag_refl | refine ag_upd rfl ?_ | refine ag_at rfl rfl ?_))⟩
  · have hk' : k = L.length := by
      have : ¬ k < L.length := by simpa using h
      omega
    subst hk'
    clear h
    rw [List.take_length]
    repeat (first | refine gG ?_ | refine zN1 (fun hlen => ?_) | refine zN2 (fun hlen => ?_) | refine zAp (fun _ => ?_))
    first | refine zR ?_ | refine zQ ?_
    rfl
theorem catN2_af (a b : List Int) (h : a.length + b.length ≤ 1048576) : AF Try.prog 32 [.row 2 1 [nRow a, nRow b]] (· = nRow (a ++ b)) := by
  have := concatN_af [a, b] (by simpa using h) (by simp)
  simpa using this
def wTs (p : Int × List Int) : List T := [.lit (.int .i64 p.1), nRow p.2]
theorem wTs_len (p : Int × List Int) : (wTs p).length = 2 := rfl
set_option maxRecDepth 100000 in
set_option maxHeartbeats 8000000 in
theorem refPath_af (n : Nt) (hok : NOk n) (fr to but : Int) (hf : 0 ≤ fr ∧ fr < n.who.length) : AF Try.prog 31 [n.t3, .lit (.int .i64 fr), .lit (.int .i64 to), .lit (.int .i64 but)] (· = .tup [nRow ((wayOf n fr to but).getD []), .lit (.bool (wayOf n fr to but).isSome)]) := by
  have hls := lns_ok hok
  have hW0 := ws_init n fr to but hf
  have hm8 := hok.who8
  have hl12 := hok.ln12
  generalize wayOf n fr to but = R at *
  obtain ⟨ls, ws⟩ := n
  dsimp only at *
  generalize ws.length = m at *
  clear hok
  refine af_enter tok Try.func31 Try.ntmps31 Try.results31 rfl (by kernel_rfl) rfl rfl fun F hX => ?_
  repeat (first | refine gX ?_ | refine zN1 (fun hlen => ?_) | refine zN2 (fun hlen => ?_) | refine zAl (fun _ => ?_) | refine zBf ?_ | refine zAp (fun _ => ?_))
  refine zBo (ts := wTs (fr, [])) (fun v0 => ?_)
  repeat (first | refine gX ?_ | refine zN1 (fun hlen => ?_) | refine zN2 (fun hlen => ?_) | refine zAl (fun _ => ?_) | refine zBf ?_ | refine zAp (fun _ => ?_))
  refine zBo (fun v1 => ?_)
  repeat (first | refine gG ?_ | refine zN1 (fun hlen => ?_) | refine zN2 (fun hlen => ?_) | refine zAl (fun _ => ?_) | refine zBf ?_ | refine zAp (fun _ => ?_))
  refine x_loop [8, 9, 10, 11, 12, 13, 14, 15, 21, 22, 23, 24, 25, 26, 27, 28, 29, 30, 31, 32, 33, 34, 35, 36, 37, 38, 39, 40, 41, 42, 43, 44, 45, 46, 47, 48, 49, 50, 51, 52, 53, 54, 55, 56, 57, 58, 59, 60, 61, 62, 63, 64, 65, 66, 67, 68, 69, 70, 71, 72, 73, 74, 75, 76, 77, 78, 79, 80, 81, 82, 83, 84, 85] (fun y : Value × Value × (List (Int × List Int) × List Int) => [(10, .own 0 y.1), (11, .own 1 y.2.1)]) (fun y => [.row y.1 98 2 y.2.2.1.length (y.2.2.1.flatMap wTs), .row y.2.1 3 1 y.2.2.2.length (y.2.2.2.flatMap nTs)])
    (fun y => WS m ls fr to but R y.2.2) (fun y => left m y.2.2) (v0, v1, ([(fr, [])], [fr])) hW0 ⟨rfl, rfl, trivial⟩ rfl ?_
  clear hW0
  rintro ⟨va, vb, ⟨Q, sn⟩⟩ hW
  dsimp only at hW ⊢
  cases Q with
  | nil =>
    have hR := ws_none hW
    rw [hR]
    have d0 : decide ((0 : Int) < ((([] : List (Int × List Int)).length : Nat) : Int)) = false := rfl
    clear hR hW
    repeat (first | refine gG ?_ | refine zN1 (fun hlen => ?_) | refine zN2 (fun hlen => ?_) | refine zAl (fun _ => ?_) | refine zBf ?_ | refine zAp (fun _ => ?_))
    first | refine zR (ts := [nRow [], .lit (.bool false)]) ?_ | refine zQ (ts := [nRow [], .lit (.bool false)]) ?_
    rfl
  | cons w q =>
    have d0 : decide ((0 : Int) < (((w :: q).length : Nat) : Int)) = true := decide_eq_true (by simp only [List.length_cons]; omega)
    have hp0 : 0 < (w :: q).length := by simp
    have hat : (((w :: q).flatMap wTs).drop (0 * 2)).take 2 = wTs w := rfl
    have hSW := ws_pop hW
    by_cases hw : w.1 = to
    · have hR := ws_hit hW hw
      rw [hR]
      have e0 : decide (w.1 = to) = true := decide_eq_true hw
      clear hR hW hSW hw hls
      obtain ⟨wa, wl⟩ := w
      repeat (first | refine gG ?_ | refine zN1 (fun hlen => ?_) | refine zN2 (fun hlen => ?_) | refine zAl (fun _ => ?_) | refine zBf ?_ | refine zAp (fun _ => ?_))
      refine zIxo 0 hp0 ?_
      repeat (first | refine gG ?_ | refine zN1 (fun hlen => ?_) | refine zN2 (fun hlen => ?_) | refine zAl (fun _ => ?_) | refine zBf ?_ | refine zAp (fun _ => ?_))
      refine zElo hat (wTs_len _) ?_
      repeat (first | refine gG ?_ | refine zN1 (fun hlen => ?_) | refine zN2 (fun hlen => ?_) | refine zAl (fun _ => ?_) | refine zBf ?_ | refine zAp (fun _ => ?_))
      refine zQl (n := ((wa, wl) :: q).length) 1 hp0 (fun v2 => ?_)
      repeat (first | refine gG ?_ | refine zN1 (fun hlen => ?_) | refine zN2 (fun hlen => ?_) | refine zAl (fun _ => ?_) | refine zBf ?_ | refine zAp (fun _ => ?_))
      first | refine zR (ts := [nRow wl, .lit (.bool true)]) ?_ | refine zQ (ts := [nRow wl, .lit (.bool true)]) ?_
      rfl
    · obtain ⟨hW2, hlt⟩ := ws_step hls hW hw
      have hGS := fun k hk => (growTo_seen (but := but) hls hSW k hk).1
      have e0 : decide (w.1 = to) = false := decide_eq_false hw
      have hwr := hSW.seen.rng w.1 hSW.mem
      have hwl := hSW.wlen
      have hsl := hSW.seen.le
      have hg0 := growTo_zero ls but w (q, sn)
      have hgn := @growTo_snoc ls but w (q, sn)
      generalize growTo ls but w (q, sn) = G at *
      clear hW hSW hw
      obtain ⟨wa, wl⟩ := w
      dsimp only at *
      repeat (first | refine gG ?_ | refine zN1 (fun hlen => ?_) | refine zN2 (fun hlen => ?_) | refine zAl (fun _ => ?_) | refine zBf ?_ | refine zAp (fun _ => ?_))
      refine zIxo 0 hp0 ?_
      repeat (first | refine gG ?_ | refine zN1 (fun hlen => ?_) | refine zN2 (fun hlen => ?_) | refine zAl (fun _ => ?_) | refine zBf ?_ | refine zAp (fun _ => ?_))
      refine zElo hat (wTs_len _) ?_
      repeat (first | refine gG ?_ | refine zN1 (fun hlen => ?_) | refine zN2 (fun hlen => ?_) | refine zAl (fun _ => ?_) | refine zBf ?_ | refine zAp (fun _ => ?_))
      refine zQl (n := ((wa, wl) :: q).length) 1 hp0 (fun v2 => ?_)
      repeat (first | refine gG ?_ | refine zN1 (fun hlen => ?_) | refine zN2 (fun hlen => ?_) | refine zAl (fun _ => ?_) | refine zBf ?_ | refine zAp (fun _ => ?_))
      rename_i b2
      refine x_loop [10, 11, 13, 14, 15, 38, 39, 40, 41, 42, 43, 44, 45, 46, 47, 48, 49, 50, 51, 52, 53, 54, 55, 56, 57, 58, 59, 60, 61, 62, 63, 64, 65, 66, 67, 68, 69, 70, 71, 72, 73, 74, 75, 76, 77, 78, 79, 80, 81, 82, 83, 84, 85] (fun y : Nat × Value × Value => [(38, .c (.lit (.int .i64 (y.1 : Nat)))), (10, .own 0 y.2.1), (11, .own 1 y.2.2)]) (fun y => [.row y.2.1 98 2 (G y.1).1.length ((G y.1).1.flatMap wTs), .row y.2.2 3 1 (G y.1).2.length ((G y.1).2.flatMap nTs), .box b2 98 [.c (.lit (.int .i64 wa)), .c (nRow wl)]])
        (fun y => y.1 ≤ ls.length) (fun y => ls.length - y.1) (0, v2, vb) (Nat.zero_le _) ⟨rfl, rfl, rfl, trivial⟩ (by simp only [hg0]; rfl) ?_
      clear hat hp0 d0 e0
      rintro ⟨k, v3, v4⟩ hk
      dsimp only at hk ⊢
      have hSk := hGS k hk
      have hsk : (G k).2.length ≤ 8 := by
        have := hSk.seen.le
        omega
      have hqk : (G k).1.length ≤ 8 := by
        have := hSk.seen.len
        omega
      repeat (first | refine gG ?_ | refine zN1 (fun hlen => ?_) | refine zN2 (fun hlen => ?_) | refine zAl (fun _ => ?_) | refine zBf ?_ | refine zAp (fun _ => ?_))
      refine x_cond rfl (fun h => ?_) (fun h => ?_)
      · have hk' : k < ls.length := by simpa using h
        obtain ⟨l, hl⟩ := nth hk'
        have hlt2 := flat_at Ln.ts 2 Ln.ts_len hl
        have hrng := hls k l hl
        have hg1 := hgn hl
        have hgr : grow but (wa, wl) (G k) (l, k) = if (k : Int) = but ∨ (l.a ≠ wa ∧ l.b ≠ wa) then G k else if l.a + l.b - wa ∈ (G k).2 then G k else ((G k).1 ++ [(l.a + l.b - wa, wl ++ [(k : Int)])], (G k).2 ++ [l.a + l.b - wa]) := rfl
        rw [hgr] at hg1
        clear h hl hgn hls hg0 hSk hW2 hlt hGS hgr
        obtain ⟨la, lb⟩ := l
        dsimp only at *
        by_cases pa : la = wa
        · have ea : decide (la = wa) = true := decide_eq_true pa
          by_cases p1 : ((k : Nat) : Int) = but
          · have e1 : decide (((k : Nat) : Int) = but) = true := decide_eq_true p1
            rw [if_pos (.inl p1)] at hg1
            repeat (first | refine zIxb 0 ?_ | refine zIxb 1 ?_ | refine zIxb 2 ?_ | refine gG ?_ | refine zN1 (fun hlen => ?_) | refine zN2 (fun hlen => ?_) | refine zAl (fun _ => ?_) | refine zBf ?_ | refine zAp (fun _ => ?_))
            refine zIx (k) (hk') ?_
            repeat (first | refine gG ?_ | refine zN1 (fun hlen => ?_) | refine zN2 (fun hlen => ?_) | refine zAl (fun _ => ?_) | refine zBx (fun _ => ?_) | refine zAp (fun _ => ?_))
            refine zEl (hlt2) (Ln.ts_len _) ?_
            repeat (first | refine zIxb 0 ?_ | refine zIxb 1 ?_ | refine zIxb 2 ?_ | refine gG ?_ | refine zN1 (fun hlen => ?_) | refine zN2 (fun hlen => ?_) | refine zAl (fun _ => ?_) | refine zBf ?_ | refine zAp (fun _ => ?_))
            exact ⟨(k + 1, v3, v4), hk', by simp only; omega, x_wkd 3 ⟨rfl, rfl, rfl, trivial⟩ (by simp only [hg1]; rfl) (by repeat (first | exact ag_refl | refine ag_upd rfl ?_ | refine ag_at rfl rfl ?_))⟩
          have e1 : decide (((k : Nat) : Int) = but) = false := decide_eq_false p1
          have hx : la + lb - wa = lb := by omega
          rw [if_neg (fun h => h.elim p1 fun h => h.1 pa), hx] at hg1
          have e2 : decide ((0 : Int) ≤ lb) = true := decide_eq_true (by omega)
          have hh := hasInt_af (G k).2 lb
          have hcat := catN2_af wl [((k : Nat) : Int)] (by simp; omega)
          by_cases p5 : lb ∈ (G k).2
          · rw [if_pos p5] at hg1
            have hv : ((G k).2.any fun a => decide (lb = a)) = true := by simp [p5]
            rw [hv] at hh
            clear hcat hv
            repeat (first | refine zIxb 0 ?_ | refine zIxb 1 ?_ | refine zIxb 2 ?_ | refine gG ?_ | refine zN1 (fun hlen => ?_) | refine zN2 (fun hlen => ?_) | refine zAl (fun _ => ?_) | refine zBf ?_ | refine zAp (fun _ => ?_))
            refine zIx (k) (hk') ?_
            repeat (first | refine gG ?_ | refine zN1 (fun hlen => ?_) | refine zN2 (fun hlen => ?_) | refine zAl (fun _ => ?_) | refine zBx (fun _ => ?_) | refine zAp (fun _ => ?_))
            refine zEl (hlt2) (Ln.ts_len _) ?_
            repeat (first | refine zIxb 0 ?_ | refine zIxb 1 ?_ | refine zIxb 2 ?_ | refine gG ?_ | refine zN1 (fun hlen => ?_) | refine zN2 (fun hlen => ?_) | refine zAl (fun _ => ?_) | refine zBf ?_ | refine zAp (fun _ => ?_))
            refine zPeek hh ?_
            rintro _ rfl
            refine ⟨rfl, ?_⟩
            repeat (first | refine zIxb 0 ?_ | refine zIxb 1 ?_ | refine zIxb 2 ?_ | refine gG ?_ | refine zN1 (fun hlen => ?_) | refine zN2 (fun hlen => ?_) | refine zAl (fun _ => ?_) | refine zBf ?_ | refine zAp (fun _ => ?_))
            exact ⟨(k + 1, v3, v4), hk', by simp only; omega, x_wkd 3 ⟨rfl, rfl, rfl, trivial⟩ (by simp only [hg1]; rfl) (by repeat (first | exact ag_refl | refine ag_upd rfl ?_ | refine ag_at rfl rfl ?_))⟩
          · rw [if_neg p5] at hg1
            have hv : ((G k).2.any fun a => decide (lb = a)) = false := List.any_eq_false.2 fun a ha he => p5 (by rw [of_decide_eq_true he]; exact ha)
            rw [hv] at hh
            clear hv
            repeat (first | refine zIxb 0 ?_ | refine zIxb 1 ?_ | refine zIxb 2 ?_ | refine gG ?_ | refine zN1 (fun hlen => ?_) | refine zN2 (fun hlen => ?_) | refine zAl (fun _ => ?_) | refine zBf ?_ | refine zAp (fun _ => ?_))
            refine zIx (k) (hk') ?_
            repeat (first | refine gG ?_ | refine zN1 (fun hlen => ?_) | refine zN2 (fun hlen => ?_) | refine zAl (fun _ => ?_) | refine zBx (fun _ => ?_) | refine zAp (fun _ => ?_))
            refine zEl (hlt2) (Ln.ts_len _) ?_
            repeat (first | refine zIxb 0 ?_ | refine zIxb 1 ?_ | refine zIxb 2 ?_ | refine gG ?_ | refine zN1 (fun hlen => ?_) | refine zN2 (fun hlen => ?_) | refine zAl (fun _ => ?_) | refine zBf ?_ | refine zAp (fun _ => ?_))
            refine zPeek hh ?_
            rintro _ rfl
            refine ⟨rfl, ?_⟩
            repeat (first | refine zIxb 0 ?_ | refine zIxb 1 ?_ | refine zIxb 2 ?_ | refine gG ?_ | refine zN1 (fun hlen => ?_) | refine zN2 (fun hlen => ?_) | refine zAl (fun _ => ?_) | refine zBf ?_ | refine zAp (fun _ => ?_))
            refine zCall (hcat) ?_
            rintro _ rfl
            repeat (first | refine zIxb 0 ?_ | refine zIxb 1 ?_ | refine zIxb 2 ?_ | refine gG ?_ | refine zN1 (fun hlen => ?_) | refine zN2 (fun hlen => ?_) | refine zAl (fun _ => ?_) | refine zBf ?_ | refine zAp (fun _ => ?_))
            exact ⟨(k + 1, _, _), hk', by simp only; omega, x_wkd 3 ⟨rfl, rfl, rfl, trivial⟩ (by simp only [hg1, List.flatMap_append, List.length_append]; rfl) (by repeat (first | exact ag_refl | refine ag_upd rfl ?_ | refine ag_at rfl rfl ?_))⟩
        have ea : decide (la = wa) = false := decide_eq_false pa
        by_cases pb : lb = wa
        · have eb : decide (lb = wa) = true := decide_eq_true pb
          by_cases p1 : ((k : Nat) : Int) = but
          · have e1 : decide (((k : Nat) : Int) = but) = true := decide_eq_true p1
            rw [if_pos (.inl p1)] at hg1
            repeat (first | refine zIxb 0 ?_ | refine zIxb 1 ?_ | refine zIxb 2 ?_ | refine gG ?_ | refine zN1 (fun hlen => ?_) | refine zN2 (fun hlen => ?_) | refine zAl (fun _ => ?_) | refine zBf ?_ | refine zAp (fun _ => ?_))
            refine zIx (k) (hk') ?_
            repeat (first | refine gG ?_ | refine zN1 (fun hlen => ?_) | refine zN2 (fun hlen => ?_) | refine zAl (fun _ => ?_) | refine zBx (fun _ => ?_) | refine zAp (fun _ => ?_))
            refine zEl (hlt2) (Ln.ts_len _) ?_
            repeat (first | refine zIxb 0 ?_ | refine zIxb 1 ?_ | refine zIxb 2 ?_ | refine gG ?_ | refine zN1 (fun hlen => ?_) | refine zN2 (fun hlen => ?_) | refine zAl (fun _ => ?_) | refine zBf ?_ | refine zAp (fun _ => ?_))
            exact ⟨(k + 1, v3, v4), hk', by simp only; omega, x_wkd 3 ⟨rfl, rfl, rfl, trivial⟩ (by simp only [hg1]; rfl) (by repeat (first | exact ag_refl | refine ag_upd rfl ?_ | refine ag_at rfl rfl ?_))⟩
          have e1 : decide (((k : Nat) : Int) = but) = false := decide_eq_false p1
          have hx : la + lb - wa = la := by omega
          rw [if_neg (fun h => h.elim p1 fun h => h.2 pb), hx] at hg1
          have e2 : decide ((0 : Int) ≤ la) = true := decide_eq_true (by omega)
          have hh := hasInt_af (G k).2 la
          have hcat := catN2_af wl [((k : Nat) : Int)] (by simp; omega)
          by_cases p5 : la ∈ (G k).2
          · rw [if_pos p5] at hg1
            have hv : ((G k).2.any fun a => decide (la = a)) = true := by simp [p5]
            rw [hv] at hh
            clear hcat hv
            repeat (first | refine zIxb 0 ?_ | refine zIxb 1 ?_ | refine zIxb 2 ?_ | refine gG ?_ | refine zN1 (fun hlen => ?_) | refine zN2 (fun hlen => ?_) | refine zAl (fun _ => ?_) | refine zBf ?_ | refine zAp (fun _ => ?_))
            refine zIx (k) (hk') ?_
            repeat (first | refine gG ?_ | refine zN1 (fun hlen => ?_) | refine zN2 (fun hlen => ?_) | refine zAl (fun _ => ?_) | refine zBx (fun _ => ?_) | refine zAp (fun _ => ?_))
            refine zEl (hlt2) (Ln.ts_len _) ?_
            repeat (first | refine zIxb 0 ?_ | refine zIxb 1 ?_ | refine zIxb 2 ?_ | refine gG ?_ | refine zN1 (fun hlen => ?_) | refine zN2 (fun hlen => ?_) | refine zAl (fun _ => ?_) | refine zBf ?_ | refine zAp (fun _ => ?_))
            refine zPeek hh ?_
            rintro _ rfl
            refine ⟨rfl, ?_⟩
            repeat (first | refine zIxb 0 ?_ | refine zIxb 1 ?_ | refine zIxb 2 ?_ | refine gG ?_ | refine zN1 (fun hlen => ?_) | refine zN2 (fun hlen => ?_) | refine zAl (fun _ => ?_) | refine zBf ?_ | refine zAp (fun _ => ?_))
            exact ⟨(k + 1, v3, v4), hk', by simp only; omega, x_wkd 3 ⟨rfl, rfl, rfl, trivial⟩ (by simp only [hg1]; rfl) (by repeat (first | exact ag_refl | refine ag_upd rfl ?_ | refine ag_at rfl rfl ?_))⟩
          · rw [if_neg p5] at hg1
            have hv : ((G k).2.any fun a => decide (la = a)) = false := List.any_eq_false.2 fun a ha he => p5 (by rw [of_decide_eq_true he]; exact ha)
            rw [hv] at hh
            clear hv
            repeat (first | refine zIxb 0 ?_ | refine zIxb 1 ?_ | refine zIxb 2 ?_ | refine gG ?_ | refine zN1 (fun hlen => ?_) | refine zN2 (fun hlen => ?_) | refine zAl (fun _ => ?_) | refine zBf ?_ | refine zAp (fun _ => ?_))
            refine zIx (k) (hk') ?_
            repeat (first | refine gG ?_ | refine zN1 (fun hlen => ?_) | refine zN2 (fun hlen => ?_) | refine zAl (fun _ => ?_) | refine zBx (fun _ => ?_) | refine zAp (fun _ => ?_))
            refine zEl (hlt2) (Ln.ts_len _) ?_
            repeat (first | refine zIxb 0 ?_ | refine zIxb 1 ?_ | refine zIxb 2 ?_ | refine gG ?_ | refine zN1 (fun hlen => ?_) | refine zN2 (fun hlen => ?_) | refine zAl (fun _ => ?_) | refine zBf ?_ | refine zAp (fun _ => ?_))
            refine zPeek hh ?_
            rintro _ rfl
            refine ⟨rfl, ?_⟩
            repeat (first | refine zIxb 0 ?_ | refine zIxb 1 ?_ | refine zIxb 2 ?_ | refine gG ?_ | refine zN1 (fun hlen => ?_) | refine zN2 (fun hlen => ?_) | refine zAl (fun _ => ?_) | refine zBf ?_ | refine zAp (fun _ => ?_))
            refine zCall (hcat) ?_
            rintro _ rfl
            repeat (first | refine zIxb 0 ?_ | refine zIxb 1 ?_ | refine zIxb 2 ?_ | refine gG ?_ | refine zN1 (fun hlen => ?_) | refine zN2 (fun hlen => ?_) | refine zAl (fun _ => ?_) | refine zBf ?_ | refine zAp (fun _ => ?_))
            exact ⟨(k + 1, _, _), hk', by simp only; omega, x_wkd 3 ⟨rfl, rfl, rfl, trivial⟩ (by simp only [hg1, List.flatMap_append, List.length_append]; rfl) (by repeat (first | exact ag_refl | refine ag_upd rfl ?_ | refine ag_at rfl rfl ?_))⟩
        have eb : decide (lb = wa) = false := decide_eq_false pb
        have e2 : decide ((0 : Int) ≤ -1) = false := rfl
        rw [if_pos (.inr ⟨pa, pb⟩)] at hg1
        by_cases p1 : ((k : Nat) : Int) = but
        · have e1 : decide (((k : Nat) : Int) = but) = true := decide_eq_true p1
          repeat (first | refine zIxb 0 ?_ | refine zIxb 1 ?_ | refine zIxb 2 ?_ | refine gG ?_ | refine zN1 (fun hlen => ?_) | refine zN2 (fun hlen => ?_) | refine zAl (fun _ => ?_) | refine zBf ?_ | refine zAp (fun _ => ?_))
          refine zIx (k) (hk') ?_
          repeat (first | refine gG ?_ | refine zN1 (fun hlen => ?_) | refine zN2 (fun hlen => ?_) | refine zAl (fun _ => ?_) | refine zBx (fun _ => ?_) | refine zAp (fun _ => ?_))
          refine zEl (hlt2) (Ln.ts_len _) ?_
          repeat (first | refine zIxb 0 ?_ | refine zIxb 1 ?_ | refine zIxb 2 ?_ | refine gG ?_ | refine zN1 (fun hlen => ?_) | refine zN2 (fun hlen => ?_) | refine zAl (fun _ => ?_) | refine zBf ?_ | refine zAp (fun _ => ?_))
          exact ⟨(k + 1, v3, v4), hk', by simp only; omega, x_wkd 3 ⟨rfl, rfl, rfl, trivial⟩ (by simp only [hg1]; rfl) (by repeat (first | exact ag_refl | refine ag_upd rfl ?_ | refine ag_at rfl rfl ?_))⟩
        have e1 : decide (((k : Nat) : Int) = but) = false := decide_eq_false p1
        repeat (first | refine zIxb 0 ?_ | refine zIxb 1 ?_ | refine zIxb 2 ?_ | refine gG ?_ | refine zN1 (fun hlen => ?_) | refine zN2 (fun hlen => ?_) | refine zAl (fun _ => ?_) | refine zBf ?_ | refine zAp (fun _ => ?_))
        refine zIx (k) (hk') ?_
        repeat (first | refine gG ?_ | refine zN1 (fun hlen => ?_) | refine zN2 (fun hlen => ?_) | refine zAl (fun _ => ?_) | refine zBx (fun _ => ?_) | refine zAp (fun _ => ?_))
        refine zEl (hlt2) (Ln.ts_len _) ?_
        repeat (first | refine zIxb 0 ?_ | refine zIxb 1 ?_ | refine zIxb 2 ?_ | refine gG ?_ | refine zN1 (fun hlen => ?_) | refine zN2 (fun hlen => ?_) | refine zAl (fun _ => ?_) | refine zBf ?_ | refine zAp (fun _ => ?_))
        exact ⟨(k + 1, v3, v4), hk', by simp only; omega, x_wkd 3 ⟨rfl, rfl, rfl, trivial⟩ (by simp only [hg1]; rfl) (by repeat (first | exact ag_refl | refine ag_upd rfl ?_ | refine ag_at rfl rfl ?_))⟩
      · have hk' : k = ls.length := Nat.le_antisymm hk (Nat.le_of_not_lt (by simpa using h))
        subst hk'
        clear h hgn hls hg0 hSk hGS
        repeat (first | refine gG ?_ | refine zN1 (fun hlen => ?_) | refine zN2 (fun hlen => ?_) | refine zAl (fun _ => ?_) | refine zBf ?_ | refine zAp (fun _ => ?_))
        exact ⟨(v3, v4, G ls.length), hW2, hlt, x_wkd 2 ⟨rfl, rfl, trivial⟩ rfl (by repeat (first | exact ag_refl | refine ag_upd rfl ?_ | refine ag_at rfl rfl ?_))⟩
end Go.Proofs.Ytaoldigfefmamaa
