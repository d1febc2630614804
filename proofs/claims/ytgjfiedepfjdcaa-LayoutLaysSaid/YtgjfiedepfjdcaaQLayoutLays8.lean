/-
  Texts of this proof, part 8: Jln.
-/
import Derived.Test.YtgjfiedepfjdcaaQLayoutLays7
import Derived.Laws.IdiomRangeMap
import Derived.Laws.Strings2
import Derived.WideKeyEntry
namespace Go.Proofs.Ytgjfiedepfjdcaa
open Go.RowKit
theorem dl_app (a b : ByteArray) : (a ++ b).data.toList = a.data.toList ++ b.data.toList := by rw [ByteArray.data_append, Array.toList_append]
theorem Gp.ts_len (g : Gp) : g.ts.length = 5 := rfl
theorem gp_look (k : Int) (G : List (Int × Gp)) : (mget k (mapT gpT G)).getD (.agg [.lit (.int .i64 0), .lit (.int .i64 0), .lit (.bool false), .lit (.bool false), .lit (.int .i64 0)]) = gpT ((gget k G).getD g0) := by
  rw [mget_T]
  cases gget k G <;> rfl
theorem gget_mem2 {k : Int} : ∀ {G : List (Int × Gp)} {g : Gp}, gget k G = some g → (k, g) ∈ G
  | [], g, h => by cases h
  | (k', g') :: G, g, h => by
    rw [gget] at h
    split at h
    · rename_i e
      rw [← e] at *
      injection h with h
      rw [h]
      exact List.mem_cons_self
    · exact List.mem_cons_of_mem _ (gget_mem2 h)
theorem gp_push (S : List Gp) (t y : Gp) : ((S ++ [t]) ++ [y]).flatMap Gp.ts = (S ++ [t]).flatMap Gp.ts ++ y.ts := by
  rw [List.flatMap_append]
  rw [show List.flatMap Gp.ts [y] = y.ts by simp]
theorem gp_one (S : List Gp) (t : Gp) : (S ++ [t]).length = S.length + 1 := by simp only [List.length_append, List.length_cons, List.length_nil]
theorem gp_pushl (S : List Gp) (t y : Gp) : ((S ++ [t]) ++ [y]).length = S.length + 1 + 1 := by simp only [List.length_append, List.length_cons, List.length_nil]
def layR (d : List Lp) (W : Int) : ByteArray × Int := if chkD d = 0 then (if W < 1 ∨ 200 < W then (⟨#[]⟩, 1) else ((lsK d W (msK d d.length).out d.length).out, 0)) else (⟨#[]⟩, chkD d)
set_option maxRecDepth 100000 in
set_option maxHeartbeats 8000000 in
theorem lay_of (hck : ∀ d, AF Try.prog 5 [Lp.row d] (· = .lit (.int .i64 (chkD d)))) (d : List Lp) (W : Int) : AF Try.prog 4 [Lp.row d, .lit (.int .i64 W)] (· = .tup [.lit (.string (layR d W).1), .lit (.int .i64 (layR d W).2)]) := by
  have hc := hck d
  unfold layR
  by_cases h0 : chkD d = 0
  case neg =>
    rw [if_neg h0]
    have q : (!decide (chkD d = 0)) = true := by rw [decide_eq_false h0]; rfl
    generalize chkD d = e at *
    refine af_enter tok Try.func4 Try.ntmps4 Try.results4 rfl (by kernel_rfl) rfl rfl fun F hX => ?_
    repeat (first | refine gG ?_ | refine zN1 (fun hlen => ?_) | refine zN2 (fun hlen => ?_) | refine zSub ?_ | refine zAl (fun _ => ?_) | refine zAp (fun _ => ?_))
    refine zCall (hc) ?_
    rintro _ rfl
    repeat (first | refine gG ?_ | refine zN1 (fun hlen => ?_) | refine zN2 (fun hlen => ?_) | refine zSub ?_ | refine zAl (fun _ => ?_) | refine zAp (fun _ => ?_))
    first | refine zR (ts := [.lit (.string ⟨#[]⟩), .lit (.int .i64 e)]) ?_ | refine zQ (ts := [.lit (.string ⟨#[]⟩), .lit (.int .i64 e)]) ?_
    rfl
  rw [if_pos h0]
  have hl : d.length ≤ 8000 := by
    unfold chkD at h0
    split at h0
    · cases h0
    · omega
  have hch : chk 0 d = 0 := by
    unfold chkD at h0
    rw [if_neg (by omega)] at h0
    exact h0
  rw [h0] at hc
  have q0 : (!decide ((0 : Int) = 0)) = false := rfl
  by_cases hW : W < 1 ∨ 200 < W
  case pos =>
    rw [if_pos hW]
    by_cases w1 : W < 1
    · have e1 : decide (W < 1) = true := decide_eq_true w1
      refine af_enter tok Try.func4 Try.ntmps4 Try.results4 rfl (by kernel_rfl) rfl rfl fun F hX => ?_
      repeat (first | refine gG ?_ | refine zN1 (fun hlen => ?_) | refine zN2 (fun hlen => ?_) | refine zSub ?_ | refine zAl (fun _ => ?_) | refine zAp (fun _ => ?_))
      refine zCall (hc) ?_
      rintro _ rfl
      repeat (first | refine gG ?_ | refine zN1 (fun hlen => ?_) | refine zN2 (fun hlen => ?_) | refine zSub ?_ | refine zAl (fun _ => ?_) | refine zAp (fun _ => ?_))
      first | refine zR (ts := [.lit (.string ⟨#[]⟩), .lit (.int .i64 1)]) ?_ | refine zQ (ts := [.lit (.string ⟨#[]⟩), .lit (.int .i64 1)]) ?_
      rfl
    · have e1 : decide (W < 1) = false := decide_eq_false w1
      have e2 : decide (W > 200) = true := decide_eq_true (by omega)
      refine af_enter tok Try.func4 Try.ntmps4 Try.results4 rfl (by kernel_rfl) rfl rfl fun F hX => ?_
      repeat (first | refine gG ?_ | refine zN1 (fun hlen => ?_) | refine zN2 (fun hlen => ?_) | refine zSub ?_ | refine zAl (fun _ => ?_) | refine zAp (fun _ => ?_))
      refine zCall (hc) ?_
      rintro _ rfl
      repeat (first | refine gG ?_ | refine zN1 (fun hlen => ?_) | refine zN2 (fun hlen => ?_) | refine zSub ?_ | refine zAl (fun _ => ?_) | refine zAp (fun _ => ?_))
      first | refine zR (ts := [.lit (.string ⟨#[]⟩), .lit (.int .i64 1)]) ?_ | refine zQ (ts := [.lit (.string ⟨#[]⟩), .lit (.int .i64 1)]) ?_
      rfl
  rw [if_neg hW]
  have e1 : decide (W < 1) = false := decide_eq_false (by omega)
  have e2 : decide (W > 200) = false := decide_eq_false (by omega)
  obtain ⟨hok, hdep⟩ := chk_all d 0 (by decide) (by decide) hch
  have hme := measure_ag d hch hl
  have hG := (msK_ok hch hl d.length (Nat.le_refl _)).out
  generalize (msK d d.length).out = G at *
  have hls := lsK_ok (W := W) (g := G) hch
  have hgg : ∀ k : Int, (0 ≤ ((gget k G).getD g0).wd ∧ ((gget k G).getD g0).wd ≤ 32000000) ∧ (0 ≤ ((gget k G).getD g0).tl ∧ ((gget k G).getD g0).tl ≤ 32000000) := fun k => by
    cases hg : gget k G with
    | none => exact ⟨⟨Int.le_refl 0, by decide⟩, Int.le_refl 0, by decide⟩
    | some g => exact hG _ (gget_mem2 hg)
  clear hck h0 hch hG
  refine af_enter tok Try.func4 Try.ntmps4 Try.results4 rfl (by kernel_rfl) rfl rfl fun F hX => ?_
  repeat (first | refine gG ?_ | refine zN1 (fun hlen => ?_) | refine zN2 (fun hlen => ?_) | refine zSub ?_ | refine zAl (fun _ => ?_) | refine zAp (fun _ => ?_))
  refine zCall (hc) ?_
  rintro _ rfl
  repeat (first | refine gG ?_ | refine zN1 (fun hlen => ?_) | refine zN2 (fun hlen => ?_) | refine zSub ?_ | refine zAl (fun _ => ?_) | refine zAp (fun _ => ?_))
  refine zCallG [] hme ?_
  rintro _ _ ⟨bm, rfl, rfl⟩
  refine ⟨.own 0 (.map (some bm)), _, re_refl, rfl, rfl, ?_⟩
  repeat (first | refine gX ?_ | refine zN1 (fun hlen => ?_) | refine zN2 (fun hlen => ?_) | refine zSub ?_ | refine zAl (fun _ => ?_) | refine zAp (fun _ => ?_))
  refine zBo (fun u0 => ?_)
  repeat (first | refine gG ?_ | refine zN1 (fun hlen => ?_) | refine zN2 (fun hlen => ?_) | refine zSub ?_ | refine zAl (fun _ => ?_) | refine zAp (fun _ => ?_))
  rename_i a
  refine x_own_cell 1 1 5 1 rfl rfl rfl rfl rfl rfl ?_
  refine x_boxR 1 [.c (.lit (.pointer none)), .own 1 (.slice none 0 0)] ?_
  refine x_loop [9, 10, 11, 12, 13, 14, 32, 33, 34, 35, 36, 37, 38, 39, 40, 41, 42, 43, 44, 45, 46, 47, 48, 49, 50, 51, 52, 53, 54, 55, 56, 57, 58, 59, 60, 61, 62, 63, 64, 65, 66, 67, 68, 69, 70, 71, 72, 73, 74, 75, 76, 77, 78, 79, 80, 81, 82, 83, 84, 85, 86, 87, 88, 89, 90, 91, 92, 93, 94, 95, 96, 97, 98, 99, 100, 101, 102, 103, 104, 105, 106, 107, 108, 109, 110, 111, 112, 113, 114, 115, 116, 117, 118, 119, 120, 121, 122] (fun y : Nat × Bool × Value × Value => [(32, .c (.lit (.int .i64 (y.1 : Nat)))), (9, .c (.lit (.int .i64 (lsK d W G y.1).col))), (10, .own 2 y.2.2.2)]) (fun y => [.mp bm (gpMap G), .box a 35 [if y.2.1 then .ptr 0 a 0 else .c (.lit (.pointer none)), .own 1 y.2.2.1], .row y.2.2.2 37 5 (lsK d W G y.1).stk.length ((lsK d W G y.1).stk.flatMap Gp.ts), .row y.2.2.1 5 1 (lsK d W G y.1).out.data.toList.length (byts (lsK d W G y.1).out.data.toList)]) (fun y => y.1 ≤ d.length ∧ NilIf (lsK d W G y.1).out.data.toList y.2.2.1) (fun y => d.length - y.1) (0, false, .slice none 0 0, u0) ⟨Nat.zero_le _, fun _ => rfl⟩ ⟨rfl, rfl, rfl, trivial⟩ rfl ?_
  rintro ⟨k, f, v, u⟩ ⟨hk, hnv⟩
  dsimp only at hk hnv ⊢
  have hlk := hls k hk
  repeat (first | refine gG ?_ | refine zN1 (fun hlen => ?_) | refine zN2 (fun hlen => ?_) | refine zSub ?_ | refine zAl (fun _ => ?_) | refine zAp (fun _ => ?_))
  refine x_cond rfl (fun h => ?_) (fun h => ?_)
  · have hk' : k < d.length := by simpa using h
    obtain ⟨p, hp⟩ := nth hk'
    have hop := hok p (List.mem_of_getElem? hp)
    have hnx : lsK d W G (k + 1) = lstep W G k p (lsK d W G k) := lrun_snoc _ _ hp ls0
    have hdk := hdep k
    obtain ⟨a1, a2, a3, a4, a5⟩ := hlk
    have hgk := hgg (k : Int)
    clear h hls hgg
    generalize lsK d W G k = s at *
    obtain ⟨stk, out, col⟩ := s
    dsimp only at a1 a2 a3 a4 a5 hnv ⊢
    have hne : stk ≠ [] := fun h0 => by rw [h0] at a1; simp only [List.length_nil] at a1; omega
    obtain ⟨e1, e2⟩ := topL_at (s := ⟨stk, out, col⟩) hne
    have ht := a2 _ _ e2
    dsimp only at e1 ht
    rw [lstep] at hnx
    generalize topL ⟨stk, out, col⟩ = t at *
    have hsl : stk.length ≤ 201 := by omega
    have hdr : stk.dropLast.length = stk.length - 1 := List.length_dropLast
    generalize stk.dropLast = S at *
    clear e2 a2 hne
    subst e1
    rw [List.length_append, List.length_singleton] at *
    rw [show S.length + 1 - 1 = S.length from rfl] at ht
    have hzl : (((S.length + 1 : Nat) : Int) - 1) = ((S.length : Nat) : Int) := by omega
    have hst : (((S ++ [t]).flatMap Gp.ts).drop (S.length * 5)).take 5 = t.ts := flat_at Gp.ts 5 Gp.ts_len (by rw [List.getElem?_append_right (Nat.le_refl _), Nat.sub_self]; rfl)
    have hcut : ((S ++ [t]).flatMap Gp.ts).take (S.length * 5) = S.flatMap Gp.ts := by rw [take_flat Gp.ts_len, List.take_left]
    have hrep := repeat_af t.ind ht.1 (by omega)
    obtain ⟨tw, tt, th, tb, ti⟩ := t
    dsimp only at ht hnx hrep
    obtain ⟨ka, nu, s⟩ := p
    have hsz := hop.sz
    have hn0 := hop.n0
    have hn2 := hop.n2
    dsimp only at hsz hn0 hn2 hnx
    have hb1 : out.size + (⟨#[10]⟩ ++ spc ti : ByteArray).size ≤ 140737488355328 := by
      have := nlS_size ti
      unfold nlS at this
      omega
    have hsp : (spc ti).size ≤ 1048576 := by rw [spc_size]; omega
    have hb2 : out.size + (⟨#[32]⟩ : ByteArray).size ≤ 140737488355328 := by
      have : (⟨#[32]⟩ : ByteArray).size = 1 := rfl
      omega
    have hb3 : out.size + s.size ≤ 140737488355328 := by omega
    repeat (first | refine gG ?_ | refine zN1 (fun hlen => ?_) | refine zN2 (fun hlen => ?_) | refine zSub ?_ | refine zAl (fun _ => ?_) | refine zAp (fun _ => ?_))
    refine zIx (k) (hk') ?_
    repeat (first | refine gG ?_ | refine zN1 (fun hlen => ?_) | refine zN2 (fun hlen => ?_) | refine zSub ?_ | refine zAl (fun _ => ?_) | refine zAp (fun _ => ?_))
    refine zEl (Lp.at hp) (Lp.ts_len _) ?_
    repeat (first | refine gG ?_ | refine zN1 (fun hlen => ?_) | refine zN2 (fun hlen => ?_) | refine zSub ?_ | refine zAl (fun _ => ?_) | refine zAp (fun _ => ?_))
    refine zIxo (n := S.length + 1) S.length (by omega) ?_ (hz := hzl)
    repeat (first | refine gG ?_ | refine zN1 (fun hlen => ?_) | refine zN2 (fun hlen => ?_) | refine zSub ?_ | refine zAl (fun _ => ?_) | refine zAp (fun _ => ?_))
    refine zElo hst (Gp.ts_len _) ?_
    clear hop hp hdk
    by_cases h5 : ka = 5
    · have f5 : decide (ka = 5) = true := decide_eq_true h5
      rw [if_pos h5] at hnx
      -- BEGIN open
      have hlook := gp_look (k : Int) G
      generalize (gget (k : Int) G).getD g0 = x at *
      obtain ⟨xw, xt, xh, xb, xi⟩ := x
      dsimp only at hgk
      unfold gpMap
      repeat (first | refine gG ?_ | refine zN1 (fun hlen => ?_) | refine zN2 (fun hlen => ?_) | refine zSub ?_ | refine zAl (fun _ => ?_) | refine zAp (fun _ => ?_))
      refine zLkin 3 37 hlook ?_
      repeat (first | refine gG ?_ | refine zN1 (fun hlen => ?_) | refine zN2 (fun hlen => ?_) | refine zSub ?_ | refine zAl (fun _ => ?_) | refine zAp (fun _ => ?_))
      cases tb with
      | false =>
        have hm : lsK d W G (k + 1) = ⟨(S ++ [⟨tw, tt, th, false, ti⟩]) ++ [⟨xw, xt, xh, false, ti + nu⟩], out, col⟩ := hnx
        repeat (first | refine gG ?_ | refine zN1 (fun hlen => ?_) | refine zN2 (fun hlen => ?_) | refine zSub ?_ | refine zAl (fun _ => ?_) | refine zAp (fun _ => ?_))
        refine lo_add rfl rfl (r := ti + nu) (by show IntKind.wrap .i64 (ti + nu) = ti + nu; rw [IntWalk.i64_in _ (by omega)]) ?_
        repeat (first | refine gG ?_ | refine zN1 (fun hlen => ?_) | refine zN2 (fun hlen => ?_) | refine zSub ?_ | refine zAl (fun _ => ?_) | refine zAp (fun _ => ?_))
        exact ⟨(k + 1, f, v, _), ⟨hk', by dsimp only; rw [hm]; exact hnv⟩, by dsimp only; omega, x_wkd 4 ⟨rfl, by dsimp only; rw [hm]; rfl, rfl, trivial⟩ (by dsimp only; rw [hm]; dsimp only; rw [gp_push, gp_pushl]; rfl) (by repeat (first | exact ag_refl | refine ag_upd rfl ?_ | refine ag_at rfl rfl ?_))⟩
      | true =>
        cases xh with
        | true =>
          have hm : lsK d W G (k + 1) = ⟨(S ++ [⟨tw, tt, th, true, ti⟩]) ++ [⟨xw, xt, true, true, ti + nu⟩], out, col⟩ := hnx
          repeat (first | refine gG ?_ | refine zN1 (fun hlen => ?_) | refine zN2 (fun hlen => ?_) | refine zSub ?_ | refine zAl (fun _ => ?_) | refine zAp (fun _ => ?_))
          refine lo_add rfl rfl (r := ti + nu) (by show IntKind.wrap .i64 (ti + nu) = ti + nu; rw [IntWalk.i64_in _ (by omega)]) ?_
          repeat (first | refine gG ?_ | refine zN1 (fun hlen => ?_) | refine zN2 (fun hlen => ?_) | refine zSub ?_ | refine zAl (fun _ => ?_) | refine zAp (fun _ => ?_))
          exact ⟨(k + 1, f, v, _), ⟨hk', by dsimp only; rw [hm]; exact hnv⟩, by dsimp only; omega, x_wkd 4 ⟨rfl, by dsimp only; rw [hm]; rfl, rfl, trivial⟩ (by dsimp only; rw [hm]; dsimp only; rw [gp_push, gp_pushl]; rfl) (by repeat (first | exact ag_refl | refine ag_upd rfl ?_ | refine ag_at rfl rfl ?_))⟩
        | false =>
          have hm : lsK d W G (k + 1) = ⟨(S ++ [⟨tw, tt, th, true, ti⟩]) ++ [⟨xw, xt, false, decide (col + xw + xt > W), ti + nu⟩], out, col⟩ := hnx
          repeat (first | refine gG ?_ | refine zN1 (fun hlen => ?_) | refine zN2 (fun hlen => ?_) | refine zSub ?_ | refine zAl (fun _ => ?_) | refine zAp (fun _ => ?_))
          refine lo_add rfl rfl (r := col + xw) (by show IntKind.wrap .i64 (col + xw) = col + xw; rw [IntWalk.i64_in _ (by omega)]) ?_
          repeat (first | refine gG ?_ | refine zN1 (fun hlen => ?_) | refine zN2 (fun hlen => ?_) | refine zSub ?_ | refine zAl (fun _ => ?_) | refine zAp (fun _ => ?_))
          refine lo_add rfl rfl (r := col + xw + xt) (by show IntKind.wrap .i64 (col + xw + xt) = col + xw + xt; rw [IntWalk.i64_in _ (by omega)]) ?_
          repeat (first | refine gG ?_ | refine zN1 (fun hlen => ?_) | refine zN2 (fun hlen => ?_) | refine zSub ?_ | refine zAl (fun _ => ?_) | refine zAp (fun _ => ?_))
          refine lo_add rfl rfl (r := ti + nu) (by show IntKind.wrap .i64 (ti + nu) = ti + nu; rw [IntWalk.i64_in _ (by omega)]) ?_
          repeat (first | refine gG ?_ | refine zN1 (fun hlen => ?_) | refine zN2 (fun hlen => ?_) | refine zSub ?_ | refine zAl (fun _ => ?_) | refine zAp (fun _ => ?_))
          exact ⟨(k + 1, f, v, _), ⟨hk', by dsimp only; rw [hm]; exact hnv⟩, by dsimp only; omega, x_wkd 4 ⟨rfl, by dsimp only; rw [hm]; rfl, rfl, trivial⟩ (by dsimp only; rw [hm]; dsimp only; rw [gp_push, gp_pushl]; rfl) (by repeat (first | exact ag_refl | refine ag_upd rfl ?_ | refine ag_at rfl rfl ?_))⟩
      -- END open
    · have f5 : decide (ka = 5) = false := decide_eq_false h5
      rw [if_neg h5] at hnx
      by_cases h6 : ka = 6
      · have f6 : decide (ka = 6) = true := decide_eq_true h6
        rw [if_pos h6] at hnx
        have hm := hnx
        repeat (first | refine gG ?_ | refine zN1 (fun hlen => ?_) | refine zN2 (fun hlen => ?_) | refine zSub ?_ | refine zAl (fun _ => ?_) | refine zAp (fun _ => ?_))
        refine zQh (n := S.length + 1) S.length (by omega) (fun u1 => ?_) (hz := hzl)
        rw [hcut]
        repeat (first | refine gG ?_ | refine zN1 (fun hlen => ?_) | refine zN2 (fun hlen => ?_) | refine zSub ?_ | refine zAl (fun _ => ?_) | refine zAp (fun _ => ?_))
        exact ⟨(k + 1, f, v, u1), ⟨hk', by dsimp only; rw [hm]; exact hnv⟩, by dsimp only; omega, x_wkd 4 ⟨rfl, by dsimp only; rw [hm]; rfl, rfl, trivial⟩ (by dsimp only; rw [hm]; rfl) (by repeat (first | exact ag_refl | refine ag_upd rfl ?_ | refine ag_at rfl rfl ?_))⟩
      · have f6 : decide (ka = 6) = false := decide_eq_false h6
        rw [if_neg h6] at hnx
        by_cases h4 : ka = 4 ∨ (tb = true ∧ ka ≠ 1)
        · rw [if_pos h4] at hnx
          have hm := hnx
          by_cases i4 : ka = 4
          · have f4 : decide (ka = 4) = true := decide_eq_true i4
            repeat (first | refine gG ?_ | refine zN1 (fun hlen => ?_) | refine zN2 (fun hlen => ?_) | refine zSub ?_ | refine zAl (fun _ => ?_) | refine zAp (fun _ => ?_))
            refine zCall (hrep) ?_
            rintro _ rfl
            repeat (first | refine gG ?_ | refine zN1 (fun hlen => ?_) | refine zN2 (fun hlen => ?_) | refine zSub ?_ | refine zAl (fun _ => ?_) | refine zAp (fun _ => ?_))
            refine zCat ?_
            repeat (first | refine gG ?_ | refine zN1 (fun hlen => ?_) | refine zN2 (fun hlen => ?_) | refine zSub ?_ | refine zAl (fun _ => ?_) | refine zAp (fun _ => ?_))
            refine zCallG [1, 3] (writeString_ag f a v out.data.toList (⟨#[10]⟩ ++ spc ti) (by rw [dl_size]; exact hb1) hnv) ?_
            rintro _ _ ⟨v', hv', rfl, rfl⟩
            refine ⟨_, _, re_refl, rfl, rfl, ?_⟩
            repeat (first | refine gG ?_ | refine zN1 (fun hlen => ?_) | refine zN2 (fun hlen => ?_) | refine zSub ?_ | refine zAl (fun _ => ?_) | refine zAp (fun _ => ?_))
            exact ⟨(k + 1, true, v', u), ⟨hk', by dsimp only; rw [hm]; dsimp only; rw [dl_app]; exact hv'⟩, by dsimp only; omega, x_wkd 4 ⟨rfl, by dsimp only; rw [hm]; rfl, rfl, trivial⟩ (by dsimp only; rw [hm]; dsimp only; rw [dl_app, gp_one]; rfl) (by repeat (first | exact ag_refl | refine ag_upd rfl ?_ | refine ag_at rfl rfl ?_))⟩
          · have f4 : decide (ka = 4) = false := decide_eq_false i4
            obtain ⟨hb, h1⟩ := h4.resolve_left i4
            subst hb
            have f1 : (!decide (ka = 1)) = true := by rw [decide_eq_false h1]; rfl
            repeat (first | refine gG ?_ | refine zN1 (fun hlen => ?_) | refine zN2 (fun hlen => ?_) | refine zSub ?_ | refine zAl (fun _ => ?_) | refine zAp (fun _ => ?_))
            refine zCall (hrep) ?_
            rintro _ rfl
            repeat (first | refine gG ?_ | refine zN1 (fun hlen => ?_) | refine zN2 (fun hlen => ?_) | refine zSub ?_ | refine zAl (fun _ => ?_) | refine zAp (fun _ => ?_))
            refine zCat ?_
            repeat (first | refine gG ?_ | refine zN1 (fun hlen => ?_) | refine zN2 (fun hlen => ?_) | refine zSub ?_ | refine zAl (fun _ => ?_) | refine zAp (fun _ => ?_))
            refine zCallG [1, 3] (writeString_ag f a v out.data.toList (⟨#[10]⟩ ++ spc ti) (by rw [dl_size]; exact hb1) hnv) ?_
            rintro _ _ ⟨v', hv', rfl, rfl⟩
            refine ⟨_, _, re_refl, rfl, rfl, ?_⟩
            repeat (first | refine gG ?_ | refine zN1 (fun hlen => ?_) | refine zN2 (fun hlen => ?_) | refine zSub ?_ | refine zAl (fun _ => ?_) | refine zAp (fun _ => ?_))
            exact ⟨(k + 1, true, v', u), ⟨hk', by dsimp only; rw [hm]; dsimp only; rw [dl_app]; exact hv'⟩, by dsimp only; omega, x_wkd 4 ⟨rfl, by dsimp only; rw [hm]; rfl, rfl, trivial⟩ (by dsimp only; rw [hm]; dsimp only; rw [dl_app, gp_one]; rfl) (by repeat (first | exact ag_refl | refine ag_upd rfl ?_ | refine ag_at rfl rfl ?_))⟩
        · rw [if_neg h4] at hnx
          have f4 : decide (ka = 4) = false := decide_eq_false (fun e => h4 (.inl e))
          by_cases h2 : ka = 2
          · have f2 : decide (ka = 2) = true := decide_eq_true h2
            rw [if_pos h2] at hnx
            have hm := hnx
            cases tb with
            | false =>
              repeat (first | refine gG ?_ | refine zN1 (fun hlen => ?_) | refine zN2 (fun hlen => ?_) | refine zSub ?_ | refine zAl (fun _ => ?_) | refine zAp (fun _ => ?_))
              refine zCallG [1, 3] (writeString_ag f a v out.data.toList ⟨#[32]⟩ (by rw [dl_size]; exact hb2) hnv) ?_
              rintro _ _ ⟨v', hv', rfl, rfl⟩
              refine ⟨_, _, re_refl, rfl, rfl, ?_⟩
              repeat (first | refine gG ?_ | refine zN1 (fun hlen => ?_) | refine zN2 (fun hlen => ?_) | refine zSub ?_ | refine zAl (fun _ => ?_) | refine zAp (fun _ => ?_))
              refine lo_add rfl rfl (r := col + 1) (by show IntKind.wrap .i64 (col + 1) = col + 1; rw [IntWalk.i64_in _ (by omega)]) ?_
              repeat (first | refine gG ?_ | refine zN1 (fun hlen => ?_) | refine zN2 (fun hlen => ?_) | refine zSub ?_ | refine zAl (fun _ => ?_) | refine zAp (fun _ => ?_))
              exact ⟨(k + 1, true, v', u), ⟨hk', by dsimp only; rw [hm]; dsimp only; rw [dl_app]; exact hv'⟩, by dsimp only; omega, x_wkd 4 ⟨rfl, by dsimp only; rw [hm]; rfl, rfl, trivial⟩ (by dsimp only; rw [hm]; dsimp only; rw [dl_app, gp_one]; rfl) (by repeat (first | exact ag_refl | refine ag_upd rfl ?_ | refine ag_at rfl rfl ?_))⟩
            | true => exact absurd (.inr ⟨rfl, by omega⟩) h4
          · have f2 : decide (ka = 2) = false := decide_eq_false h2
            rw [if_neg h2] at hnx
            have hm := hnx
            cases tb with
            | false =>
              repeat (first | refine gG ?_ | refine zN1 (fun hlen => ?_) | refine zN2 (fun hlen => ?_) | refine zSub ?_ | refine zAl (fun _ => ?_) | refine zAp (fun _ => ?_))
              refine zCallG [1, 3] (writeString_ag f a v out.data.toList s (by rw [dl_size]; exact hb3) hnv) ?_
              rintro _ _ ⟨v', hv', rfl, rfl⟩
              refine ⟨_, _, re_refl, rfl, rfl, ?_⟩
              repeat (first | refine gG ?_ | refine zN1 (fun hlen => ?_) | refine zN2 (fun hlen => ?_) | refine zSub ?_ | refine zAl (fun _ => ?_) | refine zAp (fun _ => ?_))
              refine lo_add rfl rfl (r := col + ((s.size : Nat) : Int)) (by show IntKind.wrap .i64 (col + ((s.size : Nat) : Int)) = col + ((s.size : Nat) : Int); rw [IntWalk.i64_in _ (by omega)]) ?_
              repeat (first | refine gG ?_ | refine zN1 (fun hlen => ?_) | refine zN2 (fun hlen => ?_) | refine zSub ?_ | refine zAl (fun _ => ?_) | refine zAp (fun _ => ?_))
              exact ⟨(k + 1, true, v', u), ⟨hk', by dsimp only; rw [hm]; dsimp only; rw [dl_app]; exact hv'⟩, by dsimp only; omega, x_wkd 4 ⟨rfl, by dsimp only; rw [hm]; rfl, rfl, trivial⟩ (by dsimp only; rw [hm]; dsimp only; rw [dl_app, gp_one]; rfl) (by repeat (first | exact ag_refl | refine ag_upd rfl ?_ | refine ag_at rfl rfl ?_))⟩
            | true =>
              have f1 : (!decide (ka = 1)) = false := by
                by_cases i1 : ka = 1
                · rw [decide_eq_true i1]; rfl
                · exact absurd (.inr ⟨rfl, i1⟩) h4
              repeat (first | refine gG ?_ | refine zN1 (fun hlen => ?_) | refine zN2 (fun hlen => ?_) | refine zSub ?_ | refine zAl (fun _ => ?_) | refine zAp (fun _ => ?_))
              refine zCallG [1, 3] (writeString_ag f a v out.data.toList s (by rw [dl_size]; exact hb3) hnv) ?_
              rintro _ _ ⟨v', hv', rfl, rfl⟩
              refine ⟨_, _, re_refl, rfl, rfl, ?_⟩
              repeat (first | refine gG ?_ | refine zN1 (fun hlen => ?_) | refine zN2 (fun hlen => ?_) | refine zSub ?_ | refine zAl (fun _ => ?_) | refine zAp (fun _ => ?_))
              refine lo_add rfl rfl (r := col + ((s.size : Nat) : Int)) (by show IntKind.wrap .i64 (col + ((s.size : Nat) : Int)) = col + ((s.size : Nat) : Int); rw [IntWalk.i64_in _ (by omega)]) ?_
              repeat (first | refine gG ?_ | refine zN1 (fun hlen => ?_) | refine zN2 (fun hlen => ?_) | refine zSub ?_ | refine zAl (fun _ => ?_) | refine zAp (fun _ => ?_))
              exact ⟨(k + 1, true, v', u), ⟨hk', by dsimp only; rw [hm]; dsimp only; rw [dl_app]; exact hv'⟩, by dsimp only; omega, x_wkd 4 ⟨rfl, by dsimp only; rw [hm]; rfl, rfl, trivial⟩ (by dsimp only; rw [hm]; dsimp only; rw [dl_app, gp_one]; rfl) (by repeat (first | exact ag_refl | refine ag_upd rfl ?_ | refine ag_at rfl rfl ?_))⟩
  · have hk' : k = d.length := by
      have : ¬ k < d.length := by simpa using h
      omega
    subst hk'
    clear h
    have hbs := bString_ag f a v (lsK d W G d.length).out.data.toList hnv
    generalize (lsK d W G d.length).out = O at *
    repeat (first | refine gG ?_ | refine zN1 (fun hlen => ?_) | refine zN2 (fun hlen => ?_) | refine zSub ?_ | refine zAl (fun _ => ?_) | refine zAp (fun _ => ?_))
    refine zCallG [1, 3] hbs ?_
    rintro _ _ ⟨rfl, x, y, rfl⟩
    refine ⟨_, _, re_refl, rfl, rfl, ?_⟩
    repeat (first | refine gG ?_ | refine zN1 (fun hlen => ?_) | refine zN2 (fun hlen => ?_) | refine zSub ?_ | refine zAl (fun _ => ?_) | refine zAp (fun _ => ?_))
    first | refine zR (ts := [.lit (.string ⟨O.data.toList.toArray⟩), .lit (.int .i64 0)]) ?_ | refine zQ (ts := [.lit (.string ⟨O.data.toList.toArray⟩), .lit (.int .i64 0)]) ?_
    rfl
end Go.Proofs.Ytgjfiedepfjdcaa
