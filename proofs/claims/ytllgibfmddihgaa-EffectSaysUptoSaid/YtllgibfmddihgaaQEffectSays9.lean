/-
  Texts of this proof, part 9: Tfb3 Tfc Ab41 Tfd Tfe.
-/
import Derived.Test.YtllgibfmddihgaaQEffectSays8
import Derived.Laws.Strings2
import Derived.Lib.AppendZerosOnto
import Derived.Lib.MinMax
namespace Go.Proofs.Ytllgibfmddihgaa
open Go.RowKit
def callsT (W : List Ex) (k : Nat) : List ByteArray := addS [] [] (((W.take k).filter isCall).map Ex.tx)
theorem callsT_all (e : Ex) : callsT e.walk e.walk.length = e.called := by rw [callsT, List.take_length]; rfl
theorem calls_snoc (W : List Ex) {k : Nat} {a : Ex} (h : W[k]? = some a) : callsT W (k + 1) = bif decide (a.kd = 9) && !hasS (callsT W k) a.tx then callsT W k ++ [a.tx] else callsT W k := by
  obtain ⟨h1, rfl⟩ := List.getElem?_eq_some_iff.1 h
  have e0 : callsT W (k + 1) = addS [] (callsT W k) (([W[k]].filter isCall).map Ex.tx) := by
    unfold callsT
    rw [List.take_succ_eq_append_getElem h1, List.filter_append, List.map_append, addS_app]
  rw [e0]
  have e1 : isCall W[k] = decide (W[k].kd = 9) := rfl
  cases h : decide (W[k].kd = 9)
  · rw [List.filter_cons, e1, h]; rfl
  · rw [List.filter_cons, e1, h]
    show addS [] (callsT W k) [W[k].tx] = _
    rw [addS, addS]
    cases hasS (callsT W k) W[k].tx <;> rfl
theorem addS_le (N : List ByteArray) : ∀ (L out : List ByteArray), (addS N out L).length ≤ out.length + L.length
  | [], out => by simp [addS]
  | s :: L, out => by
    have := addS_le N L (bif hasS N s || hasS out s then out else out ++ [s])
    rw [addS]
    cases hh : (hasS N s || hasS out s) <;> rw [hh] at this <;> simp only [cond, List.length_append, List.length_cons, List.length_nil] at this ⊢ <;> omega
theorem callsT_le (W : List Ex) (k : Nat) : (callsT W k).length ≤ W.length := by
  refine Nat.le_trans (addS_le _ _ _) ?_
  rw [List.length_map]
  have h1 := List.length_filter_le isCall (W.take k)
  rw [List.length_take] at h1
  simp only [List.length_nil]; omega
theorem str_two (O : List ByteArray) (s : ByteArray) : (O ++ [s]).length = O.length + 1 ∧ (O ++ [s]).flatMap strTs = O.flatMap strTs ++ strTs s := by simp
set_option maxRecDepth 100000 in
set_option maxHeartbeats 4000000 in
theorem calls_af (e : Ex) (he : e.walk.length ≤ 1048576) : AF Try.prog 65 [e.t] (· = strRow e.called) := by
  have hw := walk_af e he
  rw [← callsT_all]
  generalize e.walk = W at *
  obtain ⟨k0, n0, t0, ns0, ys0, l0, rs0, p0⟩ := e
  refine af_enter tok Try.func65 Try.ntmps65 Try.results65 rfl (by kernel_rfl) rfl rfl fun F hX => ?_
  repeat (first | refine gG ?_ | refine zN1 (fun hlen => ?_) | refine zN2 (fun hlen => ?_) | refine zAl (fun _ => ?_) | refine zBf ?_ | refine zAp (fun _ => ?_))
  refine zMm (fun b => ?_)
  repeat (first | refine gG ?_ | refine zN1 (fun hlen => ?_) | refine zN2 (fun hlen => ?_) | refine zAl (fun _ => ?_) | refine zBf ?_ | refine zAp (fun _ => ?_))
  refine zCall (hw) ?_
  rintro _ rfl
  clear hw
  repeat (first | refine gG ?_ | refine zN1 (fun hlen => ?_) | refine zN2 (fun hlen => ?_) | refine zAl (fun _ => ?_) | refine zBx (fun _ => ?_) | refine zAp (fun _ => ?_))
  refine x_own 4 9 1 rfl rfl rfl rfl rfl ?_
  refine x_loop [4, 6, 11, 12, 13, 14, 15, 16, 17, 18, 19, 20, 21, 22, 23, 24, 25, 26, 27, 28, 29, 30, 31, 32, 33] (fun y : Nat × Value × List (ByteArray × T) => [(11, .c (.lit (.int .i64 (y.1 : Nat)))), (4, .own 1 y.2.1)]) (fun y => [.mp b (mkeys Value.string y.2.2), .row y.2.1 9 1 (callsT W y.1).length ((callsT W y.1).flatMap strTs)])
    (fun y => y.1 ≤ W.length ∧ SeenOk y.2.2 (callsT W y.1)) (fun y => W.length - y.1) (0, .slice none 0 0, []) ⟨Nat.zero_le _, fun _ => rfl⟩ ⟨rfl, rfl, trivial⟩ rfl ?_
  rintro ⟨k, v, es⟩ ⟨hk, hs⟩
  dsimp only at hk hs ⊢
  repeat (first | refine gG ?_ | refine zN1 (fun hlen => ?_) | refine zN2 (fun hlen => ?_) | refine zAl (fun _ => ?_) | refine zBx (fun _ => ?_) | refine zAp (fun _ => ?_))
  refine x_cond rfl (fun h => ?_) (fun h => ?_)
  · have hk' : k < W.length := by simpa using h
    obtain ⟨a, ha⟩ := nth hk'
    have hat := Ex.at ha
    have hsn := calls_snoc W ha
    have hle := callsT_le W k
    have hls := hs a.tx
    have hpt := hs.put a.tx
    have hst := str_two (callsT W k) a.tx
    clear h
    generalize callsT W k = O at *
    generalize hO' : callsT W (k + 1) = O' at *
    obtain ⟨ka, na, ta, nsa, ysa, la, rsa, qa⟩ := a
    change O' = (bif decide (ka = 9) && !hasS O ta then O ++ [ta] else O) at hsn
    simp only [Ex.tx] at hls hpt hst
    cases d1 : decide (ka = 9)
    · rw [d1] at hsn
      subst hsn
      repeat (first | refine gG ?_ | refine zN1 (fun hlen => ?_) | refine zN2 (fun hlen => ?_) | refine zAl (fun _ => ?_) | refine zBx (fun _ => ?_) | refine zAp (fun _ => ?_))
      refine zIx (k) (hk') ?_
      repeat (first | refine gG ?_ | refine zN1 (fun hlen => ?_) | refine zN2 (fun hlen => ?_) | refine zAl (fun _ => ?_) | refine zBx (fun _ => ?_) | refine zAp (fun _ => ?_))
      refine zEl (hat) (Ex.ts_len _) ?_
      repeat (first | refine gG ?_ | refine zN1 (fun hlen => ?_) | refine zN2 (fun hlen => ?_) | refine zAl (fun _ => ?_) | refine zBx (fun _ => ?_) | refine zAp (fun _ => ?_))
      exact ⟨(k + 1, v, es), ⟨hk', by dsimp only; rw [hO']; exact hs⟩, by simp only; omega, x_wkd 2 ⟨rfl, rfl, trivial⟩ (by dsimp only; rw [hO']; rfl) (by repeat (first | exact ag_refl | refine ag_upd rfl ?_ | refine ag_at rfl rfl ?_))⟩
    · cases d2 : hasS O ta
      · rw [d1, d2] at hsn
        rw [d2] at hls
        subst hsn
        repeat (first | refine gG ?_ | refine zN1 (fun hlen => ?_) | refine zN2 (fun hlen => ?_) | refine zAl (fun _ => ?_) | refine zBx (fun _ => ?_) | refine zAp (fun _ => ?_))
        refine zIx (k) (hk') ?_
        repeat (first | refine gG ?_ | refine zN1 (fun hlen => ?_) | refine zN2 (fun hlen => ?_) | refine zAl (fun _ => ?_) | refine zBx (fun _ => ?_) | refine zAp (fun _ => ?_))
        refine zEl (hat) (Ex.ts_len _) ?_
        repeat (first | refine gG ?_ | refine zN1 (fun hlen => ?_) | refine zN2 (fun hlen => ?_) | refine zAl (fun _ => ?_) | refine zBx (fun _ => ?_) | refine zAp (fun _ => ?_))
        refine zLks 9 4 hls ?_
        repeat (first | refine gG ?_ | refine zN1 (fun hlen => ?_) | refine zN2 (fun hlen => ?_) | refine zAl (fun _ => ?_) | refine zBx (fun _ => ?_) | refine zAp (fun _ => ?_))
        refine zUps 9 4 ?_
        repeat (first | refine gG ?_ | refine zN1 (fun hlen => ?_) | refine zN2 (fun hlen => ?_) | refine zAl (fun _ => ?_) | refine zBx (fun _ => ?_) | refine zAp (fun _ => ?_))
        exact ⟨(k + 1, _, _), ⟨hk', by dsimp only; rw [hO']; exact hpt⟩, by simp only; omega, x_wkd 2 ⟨rfl, rfl, trivial⟩ (by dsimp only; rw [hO']; simp only [cond, Bool.not_false, Bool.and_self, hst.1, hst.2]; rfl) (by repeat (first | exact ag_refl | refine ag_upd rfl ?_ | refine ag_at rfl rfl ?_))⟩
      · rw [d1, d2] at hsn
        rw [d2] at hls
        subst hsn
        repeat (first | refine gG ?_ | refine zN1 (fun hlen => ?_) | refine zN2 (fun hlen => ?_) | refine zAl (fun _ => ?_) | refine zBx (fun _ => ?_) | refine zAp (fun _ => ?_))
        refine zIx (k) (hk') ?_
        repeat (first | refine gG ?_ | refine zN1 (fun hlen => ?_) | refine zN2 (fun hlen => ?_) | refine zAl (fun _ => ?_) | refine zBx (fun _ => ?_) | refine zAp (fun _ => ?_))
        refine zEl (hat) (Ex.ts_len _) ?_
        repeat (first | refine gG ?_ | refine zN1 (fun hlen => ?_) | refine zN2 (fun hlen => ?_) | refine zAl (fun _ => ?_) | refine zBx (fun _ => ?_) | refine zAp (fun _ => ?_))
        refine zLks 9 4 hls ?_
        repeat (first | refine gG ?_ | refine zN1 (fun hlen => ?_) | refine zN2 (fun hlen => ?_) | refine zAl (fun _ => ?_) | refine zBx (fun _ => ?_) | refine zAp (fun _ => ?_))
        exact ⟨(k + 1, v, es), ⟨hk', by dsimp only; rw [hO']; exact hs⟩, by simp only; omega, x_wkd 2 ⟨rfl, rfl, trivial⟩ (by dsimp only; rw [hO']; rfl) (by repeat (first | exact ag_refl | refine ag_upd rfl ?_ | refine ag_at rfl rfl ?_))⟩
  · have hk' : k = W.length := by
      have : ¬ k < W.length := by simpa using h
      omega
    subst hk'
    clear h
    repeat (first | refine gG ?_ | refine zN1 (fun hlen => ?_) | refine zN2 (fun hlen => ?_) | refine zAl (fun _ => ?_) | refine zBx (fun _ => ?_) | refine zAp (fun _ => ?_))
    first | refine zR ?_ | refine zQ ?_
    rfl
set_option maxRecDepth 100000 in
set_option maxHeartbeats 4000000 in
theorem callsOf_af (e : Ex) (he : e.walk.length ≤ 1048576) : AF Try.prog 66 [e.t] (· = strRow e.called) := by
  have hw := all_af e he
  rw [← callsT_all]
  generalize e.walk = W at *
  obtain ⟨k0, n0, t0, ns0, ys0, l0, rs0, p0⟩ := e
  refine af_enter tok Try.func66 Try.ntmps66 Try.results66 rfl (by kernel_rfl) rfl rfl fun F hX => ?_
  repeat (first | refine gG ?_ | refine zN1 (fun hlen => ?_) | refine zN2 (fun hlen => ?_) | refine zAl (fun _ => ?_) | refine zBf ?_ | refine zAp (fun _ => ?_))
  refine zCall (hw) ?_
  rintro _ rfl
  clear hw
  repeat (first | refine gG ?_ | refine zN1 (fun hlen => ?_) | refine zN2 (fun hlen => ?_) | refine zAl (fun _ => ?_) | refine zBx (fun _ => ?_) | refine zAp (fun _ => ?_))
  refine x_own 3 9 1 rfl rfl rfl rfl rfl ?_
  refine x_loop [3, 5, 9, 10, 11, 12, 13, 14, 15, 16, 17, 18, 19, 20, 21, 22, 23, 24, 25, 26, 27, 28] (fun y : Nat × Value => [(9, .c (.lit (.int .i64 (y.1 : Nat)))), (3, .own 0 y.2)]) (fun y => [.row y.2 9 1 (callsT W y.1).length ((callsT W y.1).flatMap strTs)])
    (fun y => y.1 ≤ W.length) (fun y => W.length - y.1) (0, .slice none 0 0) (Nat.zero_le _) ⟨rfl, rfl, trivial⟩ rfl ?_
  rintro ⟨k, v⟩ hk
  dsimp only at hk ⊢
  repeat (first | refine gG ?_ | refine zN1 (fun hlen => ?_) | refine zN2 (fun hlen => ?_) | refine zAl (fun _ => ?_) | refine zBx (fun _ => ?_) | refine zAp (fun _ => ?_))
  refine x_cond rfl (fun h => ?_) (fun h => ?_)
  · have hk' : k < W.length := by simpa using h
    obtain ⟨a, ha⟩ := nth hk'
    have hat := Ex.at ha
    have hsn := calls_snoc W ha
    have hle := callsT_le W k
    have hco := contains_af (callsT W k) a.tx
    have hst := str_two (callsT W k) a.tx
    clear h
    generalize callsT W k = O at *
    generalize hO' : callsT W (k + 1) = O' at *
    obtain ⟨ka, na, ta, nsa, ysa, la, rsa, qa⟩ := a
    change O' = (bif decide (ka = 9) && !hasS O ta then O ++ [ta] else O) at hsn
    simp only [Ex.tx] at hco hst
    cases d1 : decide (ka = 9)
    · rw [d1] at hsn
      subst hsn
      repeat (first | refine gG ?_ | refine zN1 (fun hlen => ?_) | refine zN2 (fun hlen => ?_) | refine zAl (fun _ => ?_) | refine zBx (fun _ => ?_) | refine zAp (fun _ => ?_))
      refine zIx (k) (hk') ?_
      repeat (first | refine gG ?_ | refine zN1 (fun hlen => ?_) | refine zN2 (fun hlen => ?_) | refine zAl (fun _ => ?_) | refine zBx (fun _ => ?_) | refine zAp (fun _ => ?_))
      refine zEl (hat) (Ex.ts_len _) ?_
      repeat (first | refine gG ?_ | refine zN1 (fun hlen => ?_) | refine zN2 (fun hlen => ?_) | refine zAl (fun _ => ?_) | refine zBx (fun _ => ?_) | refine zAp (fun _ => ?_))
      exact ⟨(k + 1, v), hk', by simp only; omega, x_wkd 1 ⟨rfl, rfl, trivial⟩ (by dsimp only; rw [hO']; rfl) (by repeat (first | exact ag_refl | refine ag_upd rfl ?_ | refine ag_at rfl rfl ?_))⟩
    · cases d2 : hasS O ta
      · rw [d1, d2] at hsn
        rw [d2] at hco
        subst hsn
        repeat (first | refine gG ?_ | refine zN1 (fun hlen => ?_) | refine zN2 (fun hlen => ?_) | refine zAl (fun _ => ?_) | refine zBx (fun _ => ?_) | refine zAp (fun _ => ?_))
        refine zIx (k) (hk') ?_
        repeat (first | refine gG ?_ | refine zN1 (fun hlen => ?_) | refine zN2 (fun hlen => ?_) | refine zAl (fun _ => ?_) | refine zBx (fun _ => ?_) | refine zAp (fun _ => ?_))
        refine zEl (hat) (Ex.ts_len _) ?_
        repeat (first | refine gG ?_ | refine zN1 (fun hlen => ?_) | refine zN2 (fun hlen => ?_) | refine zAl (fun _ => ?_) | refine zBx (fun _ => ?_) | refine zAp (fun _ => ?_))
        refine zPeek (hco) ?_
        rintro _ rfl
        refine ⟨rfl, ?_⟩
        repeat (first | refine gG ?_ | refine zN1 (fun hlen => ?_) | refine zN2 (fun hlen => ?_) | refine zAl (fun _ => ?_) | refine zBx (fun _ => ?_) | refine zAp (fun _ => ?_))
        exact ⟨(k + 1, _), hk', by simp only; omega, x_wkd 1 ⟨rfl, rfl, trivial⟩ (by dsimp only; rw [hO']; simp only [cond, Bool.not_false, Bool.and_self, hst.1, hst.2]; rfl) (by repeat (first | exact ag_refl | refine ag_upd rfl ?_ | refine ag_at rfl rfl ?_))⟩
      · rw [d1, d2] at hsn
        rw [d2] at hco
        subst hsn
        repeat (first | refine gG ?_ | refine zN1 (fun hlen => ?_) | refine zN2 (fun hlen => ?_) | refine zAl (fun _ => ?_) | refine zBx (fun _ => ?_) | refine zAp (fun _ => ?_))
        refine zIx (k) (hk') ?_
        repeat (first | refine gG ?_ | refine zN1 (fun hlen => ?_) | refine zN2 (fun hlen => ?_) | refine zAl (fun _ => ?_) | refine zBx (fun _ => ?_) | refine zAp (fun _ => ?_))
        refine zEl (hat) (Ex.ts_len _) ?_
        repeat (first | refine gG ?_ | refine zN1 (fun hlen => ?_) | refine zN2 (fun hlen => ?_) | refine zAl (fun _ => ?_) | refine zBx (fun _ => ?_) | refine zAp (fun _ => ?_))
        refine zPeek (hco) ?_
        rintro _ rfl
        refine ⟨rfl, ?_⟩
        repeat (first | refine gG ?_ | refine zN1 (fun hlen => ?_) | refine zN2 (fun hlen => ?_) | refine zAl (fun _ => ?_) | refine zBx (fun _ => ?_) | refine zAp (fun _ => ?_))
        exact ⟨(k + 1, v), hk', by simp only; omega, x_wkd 1 ⟨rfl, rfl, trivial⟩ (by dsimp only; rw [hO']; rfl) (by repeat (first | exact ag_refl | refine ag_upd rfl ?_ | refine ag_at rfl rfl ?_))⟩
  · have hk' : k = W.length := by
      have : ¬ k < W.length := by simpa using h
      omega
    subst hk'
    clear h
    repeat (first | refine gG ?_ | refine zN1 (fun hlen => ?_) | refine zN2 (fun hlen => ?_) | refine zAl (fun _ => ?_) | refine zBx (fun _ => ?_) | refine zAp (fun _ => ?_))
    first | refine zR ?_ | refine zQ ?_
    rfl
set_option maxRecDepth 100000 in
set_option maxHeartbeats 4000000 in
theorem funs_af (p : Pr) (hp : p.funs.length ≤ 1048576) : AF Try.prog 57 [p.t] (· = Fu.row p.funs) := by
  obtain ⟨nm, vr, us, ds, trs, ims, fus, acs⟩ := p
  simp only [Pr.funs, List.length_append] at hp
  refine af_enter tok Try.func57 Try.ntmps57 Try.results57 rfl (by kernel_rfl) rfl rfl fun F hX => ?_
  repeat (first | refine gG ?_ | refine zN1 (fun hlen => ?_) | refine zN2 (fun hlen => ?_) | refine zAl (fun _ => ?_) | refine zBf ?_ | refine zAp (fun _ => ?_))
  refine x_own 3 133 15 rfl rfl rfl rfl rfl ?_
  refine x_loop [3, 5, 9, 10, 11, 12, 13, 14, 15, 16, 17] (fun y : Nat × Value => [(9, .c (.lit (.int .i64 (y.1 : Nat)))), (3, .own 0 y.2)]) (fun y => [.row y.2 133 15 ((ims.take y.1).flatMap Im.funcs).length (((ims.take y.1).flatMap Im.funcs).flatMap Fu.ts)])
    (fun y => y.1 ≤ ims.length) (fun y => ims.length - y.1) (0, .slice none 0 0) (Nat.zero_le _) ⟨rfl, rfl, trivial⟩ rfl ?_
  rintro ⟨k, v⟩ hk
  dsimp only at hk ⊢
  repeat (first | refine gG ?_ | refine zN1 (fun hlen => ?_) | refine zN2 (fun hlen => ?_) | refine zAl (fun _ => ?_) | refine zBx (fun _ => ?_) | refine zAp (fun _ => ?_))
  refine x_cond rfl (fun h => ?_) (fun h => ?_)
  · have hk' : k < ims.length := by simpa using h
    obtain ⟨a, ha⟩ := nth hk'
    have hle := flatl_le Im.funcs ims (k + 1)
    have hsn := flat_snoc' Im.funcs ha
    have hl1 : ((ims.take (k + 1)).flatMap Im.funcs).length = ((ims.take k).flatMap Im.funcs).length + a.funcs.length := by rw [hsn, List.length_append]
    have hc1 : ((ims.take (k + 1)).flatMap Im.funcs).flatMap Fu.ts = ((ims.take k).flatMap Im.funcs).flatMap Fu.ts ++ a.funcs.flatMap Fu.ts := by rw [hsn, List.flatMap_append]
    clear h hsn
    repeat (first | refine gG ?_ | refine zN1 (fun hlen => ?_) | refine zN2 (fun hlen => ?_) | refine zAl (fun _ => ?_) | refine zBx (fun _ => ?_) | refine zAp (fun _ => ?_))
    refine zIx (k) (hk') ?_
    repeat (first | refine gG ?_ | refine zN1 (fun hlen => ?_) | refine zN2 (fun hlen => ?_) | refine zAl (fun _ => ?_) | refine zBx (fun _ => ?_) | refine zAp (fun _ => ?_))
    refine zEl (Im.at ha) (Im.ts_len a) ?_
    obtain ⟨tn, dn, fs⟩ := a
    dsimp only at hl1 hc1
    repeat (first | refine gG ?_ | refine zN1 (fun hlen => ?_) | refine zN2 (fun hlen => ?_) | refine zAl (fun _ => ?_) | refine zBx (fun _ => ?_) | refine zAp (fun _ => ?_))
    exact ⟨(k + 1, _), hk', by simp only; omega, x_wkd 1 ⟨rfl, rfl, trivial⟩ (by simp only [hl1, hc1]; rfl) (by repeat (first | exact ag_refl | refine ag_upd rfl ?_ | refine ag_at rfl rfl ?_))⟩
  · have hk' : k = ims.length := by
      have : ¬ k < ims.length := by simpa using h
      omega
    subst hk'
    clear h
    rw [List.take_length]
    repeat (first | refine gG ?_ | refine zN1 (fun hlen => ?_) | refine zN2 (fun hlen => ?_) | refine zAl (fun _ => ?_) | refine zBx (fun _ => ?_) | refine zAp (fun _ => ?_))
    first | refine zR ?_ | refine zQ ?_
    simp only [outT, Fu.row, Pr.funs, List.length_append, List.flatMap_append]
def Qn.ts (q : Qn) : List T := [.lit (.int .i64 (q.own : Nat)), strRow q.calls, .lit (.bool q.any)]
theorem Qn.ts_len (q : Qn) : q.ts.length = 3 := rfl
def Qn.row (l : List Qn) : T := .row l.length 3 (l.flatMap Qn.ts)
theorem Qn.at {l : List Qn} {k : Nat} {x : Qn} (h : l[k]? = some x) : ((l.flatMap Qn.ts).drop (k * 3)).take 3 = x.ts := flat_at Qn.ts 3 Qn.ts_len h
theorem any_snoc (W : List Ex) {k : Nat} {a : Ex} (h : W[k]? = some a) : (W.take (k + 1)).any isApply = ((W.take k).any isApply || decide (a.kd = 11)) := by
  obtain ⟨h1, rfl⟩ := List.getElem?_eq_some_iff.1 h
  rw [List.take_succ_eq_append_getElem h1, List.any_append]
  simp [isApply]
end Go.Proofs.Ytllgibfmddihgaa
namespace Go.Proofs.Ytllgibfmddihgaa
open Go.RowKit
set_option maxRecDepth 100000 in
set_option maxHeartbeats 4000000 in
theorem of_af (e : Ex) (he : e.walk.length ≤ 1048576) : AF Try.prog 104 [e.t] (· = .agg e.eqn.ts) := by
  have hw := walk_af e he
  have ho := own_af e he
  have hc := calls_af e he
  unfold Ex.eqn
  generalize e.own = o at *
  generalize e.called = O at *
  generalize e.walk = W at *
  obtain ⟨k0, n0, t0, ns0, ys0, l0, rs0, p0⟩ := e
  refine af_enter tok Try.func104 Try.ntmps104 Try.results104 rfl (by kernel_rfl) rfl rfl fun F hX => ?_
  repeat (first | refine gG ?_ | refine zN1 (fun hlen => ?_) | refine zN2 (fun hlen => ?_) | refine zAl (fun _ => ?_) | refine zBf ?_)
  refine ac_draw [1, 1, 1, 1, 1, 3, 2] [0, 1, 2, 3, 4, 5, 6] (by kernel_rfl) (by kernel_rfl) ?_
  refine gW ?_
  apply w_q; (focus exact rfl); (focus exact rfl); focus (intro _; (refine zCall ho ?_; rintro _ rfl); exact det_refl)
  refine gW ?_
  apply w_q; (focus exact rfl); (focus exact rfl); focus (intro _; (refine zCall hc ?_; rintro _ rfl); exact det_refl)
  refine gW ?_
  apply w_a; (focus exact rfl); (focus exact rfl); refine v_alloc tok rfl rfl rfl (fun _ => rfl) (fun _ => ⟨⟨_, rfl⟩, ?_⟩)
  apply w_l; (focus exact rfl); (focus exact rfl); (refine zS ?_)
  refine w_nil ?_
  clear ho hc
  repeat (first | refine gG ?_ | refine zN1 (fun hlen => ?_) | refine zN2 (fun hlen => ?_) | refine zAl (fun _ => ?_) | refine zBx (fun _ => ?_))
  refine zCall (hw) ?_
  rintro _ rfl
  clear hw
  repeat (first | refine gG ?_ | refine zN1 (fun hlen => ?_) | refine zN2 (fun hlen => ?_) | refine zAl (fun _ => ?_) | refine zBx (fun _ => ?_))
  rename_i b0 b1
  refine x_loop [5, 14, 15, 16, 17, 18, 19, 20, 21, 22, 23, 24, 25, 26] (fun k : Nat => [(14, .c (.lit (.int .i64 (k : Nat))))]) (fun k => [.box b0 210 [.c (.lit (.int .i64 0)), .c (.lit (.slice none 0 0)), .c (.lit (.bool false))], .box b1 210 [.c (.lit (.int .i64 (o : Nat))), .c (strRow O), .c (.lit (.bool ((W.take k).any isApply)))]]) (fun k => k ≤ W.length) (fun k => W.length - k) 0 (Nat.zero_le _) ⟨rfl, trivial⟩ rfl ?_
  rintro k hk
  repeat (first | refine gG ?_ | refine zN1 (fun hlen => ?_) | refine zN2 (fun hlen => ?_) | refine zAl (fun _ => ?_) | refine zBx (fun _ => ?_))
  refine x_cond rfl (fun h => ?_) (fun h => ?_)
  · have hk' : k < W.length := by simpa using h
    obtain ⟨a, ha⟩ := nth hk'
    have hat := Ex.at ha
    have hsn := any_snoc W ha
    clear h ha
    generalize (W.take k).any isApply = c at *
    obtain ⟨ka, na, ta, nsa, ysa, la, rsa, qa⟩ := a
    change (W.take (k + 1)).any isApply = (c || decide (ka = 11)) at hsn
    cases c
    · repeat (first | refine gG ?_ | refine zN1 (fun hlen => ?_) | refine zN2 (fun hlen => ?_) | refine zAl (fun _ => ?_) | refine zBx (fun _ => ?_))
      refine zIx (k) (hk') ?_
      repeat (first | refine gG ?_ | refine zN1 (fun hlen => ?_) | refine zN2 (fun hlen => ?_) | refine zAl (fun _ => ?_) | refine zBx (fun _ => ?_))
      refine zEl (hat) (Ex.ts_len _) ?_
      repeat (first | refine gG ?_ | refine zN1 (fun hlen => ?_) | refine zN2 (fun hlen => ?_) | refine zAl (fun _ => ?_) | refine zBx (fun _ => ?_))
      exact ⟨k + 1, hk', by omega, x_wkd 2 ⟨rfl, trivial⟩ (by rw [hsn]; rfl) (by repeat (first | exact ag_refl | refine ag_upd rfl ?_ | refine ag_at rfl rfl ?_))⟩
    · repeat (first | refine gG ?_ | refine zN1 (fun hlen => ?_) | refine zN2 (fun hlen => ?_) | refine zAl (fun _ => ?_) | refine zBx (fun _ => ?_))
      refine zIx (k) (hk') ?_
      repeat (first | refine gG ?_ | refine zN1 (fun hlen => ?_) | refine zN2 (fun hlen => ?_) | refine zAl (fun _ => ?_) | refine zBx (fun _ => ?_))
      refine zEl (hat) (Ex.ts_len _) ?_
      repeat (first | refine gG ?_ | refine zN1 (fun hlen => ?_) | refine zN2 (fun hlen => ?_) | refine zAl (fun _ => ?_) | refine zBx (fun _ => ?_))
      exact ⟨k + 1, hk', by omega, x_wkd 2 ⟨rfl, trivial⟩ (by rw [hsn]; rfl) (by repeat (first | exact ag_refl | refine ag_upd rfl ?_ | refine ag_at rfl rfl ?_))⟩
  · have hk' : k = W.length := by
      have : ¬ k < W.length := by simpa using h
      omega
    subst hk'
    clear h
    rw [List.take_length]
    repeat (first | refine gG ?_ | refine zN1 (fun hlen => ?_) | refine zN2 (fun hlen => ?_) | refine zAl (fun _ => ?_) | refine zBx (fun _ => ?_))
    first | refine zR ?_ | refine zQ ?_
    rfl
/-- the names' numbers in a map -/
def MapIs (σ : ByteArray → Nat) (es : List (ByteArray × T)) : Prop := ∀ s, (mget s es).getD (.lit (.int .i64 0)) = .lit (.int .i64 ((σ s : Nat) : Int))
theorem MapIs.nil : MapIs (fun _ => 0) [] := fun _ => rfl
theorem MapIs.put {σ : ByteArray → Nat} {es : List (ByteArray × T)} (h : MapIs σ es) (s : ByteArray) (n : Nat) : MapIs (updS σ s n) (mput s (.lit (.int .i64 (n : Nat))) es) := fun x => by
  rw [mget_put]
  unfold updS
  split
  · next e => simp [e]
  · exact h x
theorem calls_snocS (σ : ByteArray → Nat) (l : List ByteArray) {k : Nat} {a : ByteArray} (h : l[k]? = some a) : orL ((l.take (k + 1)).map σ) = orL ((l.take k).map σ) ||| σ a := by
  obtain ⟨h1, rfl⟩ := List.getElem?_eq_some_iff.1 h
  rw [List.take_succ_eq_append_getElem h1, List.map_append, List.map_cons, List.map_nil, orL_snoc]
theorem orL_map_lt (σ : ByteArray → Nat) (hs : ∀ s, σ s < 128) (l : List ByteArray) : orL (l.map σ) < 128 := orL_lt _ fun a ha => by
  obtain ⟨x, _, rfl⟩ := List.mem_map.1 ha
  exact hs _
set_option maxRecDepth 100000 in
set_option maxHeartbeats 4000000 in
theorem evalQ_ag (q : Qn) (ho : q.own < 128) (σ : ByteArray → Nat) (hs : ∀ s, σ s < 128) (a : Nat) (ha : a < 128) (es : List (ByteArray × T)) (hes : MapIs σ es) (b : Nat) :
    AG Try.prog 103 [.agg [.own 0 (.map (some b)), .c (.lit (.int .i64 (a : Nat)))], .c (.agg q.ts)] [.mp b (mkeys Value.string es)]
      (fun r hq => r = .c (.lit (.int .i64 (q.eval σ a : Nat))) ∧ hq = [.mp b (mkeys Value.string es)]) := by
  obtain ⟨own, calls, any⟩ := q
  dsimp only [Qn.ts] at ho ⊢
  have ev : (Qn.mk own calls any).eval σ a = bif any then (own ||| orL (calls.map σ)) ||| a else own ||| orL (calls.map σ) := rfl
  rw [ev]
  clear ev
  refine ag_enter 1 tok Try.func103 Try.ntmps103 Try.results103 rfl (by kernel_rfl) rfl fun F => ?_
  repeat (first | refine gG ?_ | refine zN1 (fun hlen => ?_) | refine zN2 (fun hlen => ?_) | refine zBx (fun _ => ?_))
  rename_i b0 b1
  refine x_loop [5, 7, 13, 14, 15, 16, 17, 18, 19, 20, 21, 22, 23] (fun k : Nat => [(13, .c (.lit (.int .i64 (k : Nat)))), (5, .c (.lit (.int .i64 (own ||| orL ((calls.take k).map σ) : Nat))))]) (fun k => [.mp b (mkeys Value.string es), .box b0 206 [.own 0 (.map (some b)), .c (.lit (.int .i64 (a : Nat)))], .box b1 210 [.c (.lit (.int .i64 (own : Nat))), .c (strRow calls), .c (.lit (.bool any))]]) (fun k => k ≤ calls.length) (fun k => calls.length - k) 0 (Nat.zero_le _) ⟨rfl, by rw [List.take_zero, List.map_nil, show orL [] = 0 from rfl, Nat.or_zero]; rfl, trivial⟩ rfl ?_
  rintro k hk
  repeat (first | refine gG ?_ | refine zN1 (fun hlen => ?_) | refine zN2 (fun hlen => ?_) | refine zBx (fun _ => ?_))
  refine x_cond rfl (fun h => ?_) (fun h => ?_)
  · have hk' : k < calls.length := by simpa using h
    obtain ⟨s, hsk⟩ := nth hk'
    have hsn : own ||| orL ((calls.take (k + 1)).map σ) = (own ||| orL ((calls.take k).map σ)) ||| σ s := by rw [calls_snocS σ calls hsk, Nat.or_assoc]
    have hlt := or_lt7 ho (orL_map_lt σ hs (calls.take k))
    have hat := str_at1 hsk
    have hl1 := hes s
    have hl2 := hs s
    clear h
    generalize own ||| orL ((calls.take k).map σ) = o at *
    repeat (first | refine gG ?_ | refine zN1 (fun hlen => ?_) | refine zN2 (fun hlen => ?_) | refine zBx (fun _ => ?_))
    refine zIx k hk' ?_
    repeat (first | refine gG ?_ | refine zN1 (fun hlen => ?_) | refine zN2 (fun hlen => ?_) | refine zBx (fun _ => ?_))
    refine zEl1 hat ?_
    repeat (first | refine gG ?_ | refine zN1 (fun hlen => ?_) | refine zN2 (fun hlen => ?_) | refine zBx (fun _ => ?_))
    refine zLks 9 3 hl1 ?_
    repeat (first | refine gG ?_ | refine zN1 (fun hlen => ?_) | refine zN2 (fun hlen => ?_) | refine zBx (fun _ => ?_))
    refine zOrN ?_
    repeat (first | refine gG ?_ | refine zN1 (fun hlen => ?_) | refine zN2 (fun hlen => ?_) | refine zBx (fun _ => ?_))
    exact ⟨k + 1, hk', by omega, x_wkd 3 ⟨rfl, congrArg (fun n : Nat => AV.c (.lit (.int .i64 (n : Int)))) hsn.symm, trivial⟩ rfl (by repeat (first | exact ag_refl | refine ag_upd rfl ?_ | refine ag_at rfl rfl ?_))⟩
  · have hk' : k = calls.length := by
      have : ¬ k < calls.length := by simpa using h
      omega
    subst hk'
    have hlt := or_lt7 ho (orL_map_lt σ hs calls)
    clear h
    rw [List.take_length]
    generalize own ||| orL (calls.map σ) = o at *
    cases any
    · repeat (first | refine gG ?_ | refine zN1 (fun hlen => ?_) | refine zN2 (fun hlen => ?_) | refine zBx (fun _ => ?_))
      refine zG ?_
      exact ⟨rfl, rfl⟩
    · repeat (first | refine gG ?_ | refine zN1 (fun hlen => ?_) | refine zN2 (fun hlen => ?_) | refine zBx (fun _ => ?_))
      refine zOrN ?_
      repeat (first | refine gG ?_ | refine zN1 (fun hlen => ?_) | refine zN2 (fun hlen => ?_) | refine zBx (fun _ => ?_))
      refine zG ?_
      exact ⟨rfl, rfl⟩
end Go.Proofs.Ytllgibfmddihgaa
namespace Go.Proofs.Ytllgibfmddihgaa
open Go.RowKit
theorem putB_same : ∀ {hp : List Blk} {sel : List Nat} {hs : List Blk}, selB hp sel = some hs → putB hp sel hs = hp
  | hp, [], hs, h => by simp only [selB, Option.some.injEq] at h; subst h; simp [putB]
  | hp, k :: is, hs, h => by
    simp only [selB] at h
    split at h
    · next x r hx hr =>
      simp only [Option.some.injEq] at h
      subst h
      rw [putB, putB_same hr]
      obtain ⟨h1, rfl⟩ := List.getElem?_eq_some_iff.1 hx
      exact List.set_getElem_self h1
    · cases h
theorem selB_len : ∀ {hp : List Blk} {sel : List Nat} {hs : List Blk}, selB hp sel = some hs → sel.length = hs.length
  | hp, [], hs, h => by simp only [selB, Option.some.injEq] at h; subst h; rfl
  | hp, k :: is, hs, h => by
    simp only [selB] at h
    split at h
    · next x r hx hr =>
      simp only [Option.some.injEq] at h
      subst h
      rw [List.length_cons, List.length_cons, selB_len hr]
    · cases h
theorem re_agg {asq bs : List AV} (h : Res asq bs) : Re (.agg asq) (.agg bs) := fun M u hu => by
  simp only [RA] at hu ⊢
  obtain ⟨xs, e, h1⟩ := hu
  exact ⟨xs, e, h M _ h1⟩
section
variable {P : Program} {F : Frm} {d : Option Tmp} {ty : TypeId} {pos : String} {aft : Array Edge} {g : Option (Nat × Bool)} {ρ : Operand → AV} {hp : List Blk} {K : AV → List Blk → Prop}
theorem zCallR {f : FuncId} {y : Operand} {xs : List Operand} {ats : Array TypeId} {asq cap : List AV} {hs : List Blk} {R : AV → List Blk → Prop} {t : AV} (sel : List Nat) (hc : AG P f asq hs R) (hR : ∀ r hs2, R r hs2 → r = t ∧ hs2 = hs) (h : K t hp) (hy : ρ y = .fn (.func f) cap := by exact rfl)
    (hx : Res (xs.map ρ ++ cap) asq := by repeat (first | exact res_nil | apply res_cons | exact re_own | exact re_ptr | exact re_refl | apply re_agg | apply re_cls | exact rzs_nil | apply rzs_cons | exact rz_c | exact rz_nil rfl | apply rz_agg | apply rz_fn | apply rz_tup)) (hsl : selB hp sel = some hs := by exact rfl) (hf : freshB sel = true := by exact rfl) :
    LO P F ⟨d, .call { callee := .value y, args := xs.toArray, argTypes := ats }, ty, pos, aft, g⟩ ρ hp K :=
  lo_callG sel hc (fun M u hu => by rw [hy] at hu; simpa only [RA] using hu) hx hsl hf fun r hs2 hR' => by
    obtain ⟨rfl, rfl⟩ := hR r hs2 hR'
    exact ⟨_, re_refl, Nat.le_of_eq (selB_len hsl), by rw [putB_same hsl]; exact h⟩
end
end Go.Proofs.Ytllgibfmddihgaa
namespace Go.Proofs.Ytllgibfmddihgaa
open Go.RowKit
abbrev tidS : TypeId := 9
abbrev tidI : TypeId := 3
def SolveR (F : List Fu) (W : List Ex) (r : AV) (hs : List Blk) : Prop :=
  ∃ (b : Nat) (es : List (ByteArray × T)) (σ : ByteArray → Nat) (a : Nat) (x0 x1 x2 : Blk), r = .agg [.own 3 (.map (some b)), .c (.lit (.int .i64 (a : Nat)))] ∧ hs = [x0, x1, x2, .mp b (mkeys Value.string es)] ∧ MapIs σ es ∧ Sound F W σ a ∧ (∀ f ∈ F, Shut σ a f) ∧ (∀ v ∈ W, ShutV σ a v)
def Qn.all (l : List Qn) : List T := l.flatMap Qn.ts
theorem Qn.all_app (l r : List Qn) : Qn.all (l ++ r) = Qn.all l ++ Qn.all r := by simp [Qn.all]
theorem Qn.at' {l : List Qn} {k : Nat} {x : Qn} (h : l[k]? = some x) : ((Qn.all l).drop (k * 3)).take 3 = x.ts := Qn.at h
theorem takem_len {α β : Type} (g : α → β) {l : List α} {k : Nat} {a : α} (h : l[k]? = some a) : ((l.take (k + 1)).map g).length = ((l.take k).map g).length + 1 := by
  obtain ⟨h1, rfl⟩ := List.getElem?_eq_some_iff.1 h
  simp only [List.length_map, List.length_take]; omega
theorem takem_snoc {α β : Type} (g : α → β) {l : List α} {k : Nat} {a : α} (h : l[k]? = some a) : (l.take (k + 1)).map g = (l.take k).map g ++ [g a] := by
  obtain ⟨h1, rfl⟩ := List.getElem?_eq_some_iff.1 h
  rw [List.take_succ_eq_append_getElem h1, List.map_append, List.map_cons, List.map_nil]
theorem Qn.all_snoc {α : Type} (g : α → Qn) {l : List α} {k : Nat} {a : α} (h : l[k]? = some a) : Qn.all ((l.take (k + 1)).map g) = Qn.all ((l.take k).map g) ++ (g a).ts := by
  rw [takem_snoc g h, Qn.all_app]
  simp [Qn.all]
def fbody (f : Fu) : Qn := f.body.eqn
theorem fbody_at {F : List Fu} {k : Nat} {f : Fu} (h : F[k]? = some f) : (F.map fbody)[k]? = some f.body.eqn := by rw [List.getElem?_map, h]; rfl
def vals (b : Ex) : List Ex := b.walk.filter isFun
theorem filt_snoc (q : Ex → Bool) {l : List Ex} {k : Nat} {a : Ex} (h : l[k]? = some a) : (l.take (k + 1)).filter q = (l.take k).filter q ++ (bif q a then [a] else []) := by
  obtain ⟨h1, rfl⟩ := List.getElem?_eq_some_iff.1 h
  rw [List.take_succ_eq_append_getElem h1, List.filter_append, List.filter_cons]
  cases q l[k] <;> rfl
theorem filt_le (q : Ex → Bool) (l : List Ex) (k : Nat) : ((l.take k).filter q).length ≤ (l.filter q).length := by
  have := congrArg (fun r => (List.filter q r).length) (List.take_append_drop k l)
  simp only [List.filter_append, List.length_append] at this
  omega
theorem Qn.all_one (l : List Ex) (a : Ex) : ((l ++ [a]).map Ex.eqn).length = (l.map Ex.eqn).length + 1 ∧ Qn.all ((l ++ [a]).map Ex.eqn) = Qn.all (l.map Ex.eqn) ++ a.eqn.ts := by
  constructor
  · simp
  · rw [List.map_append, Qn.all_app]; simp [Qn.all]
theorem vals_eq (p : Pr) : p.values = p.bodies.flatMap vals := rfl
theorem take_mem {α : Type} {l : List α} {k : Nat} {a : α} (h : l[k]? = some a) : ∀ x ∈ l.take (k + 1), x ∈ l.take k ∨ x = a := fun x hx => by
  obtain ⟨h1, rfl⟩ := List.getElem?_eq_some_iff.1 h
  rw [List.take_succ_eq_append_getElem h1] at hx
  rcases List.mem_append.1 hx with h2 | h2
  · exact .inl h2
  · exact .inr (List.mem_singleton.1 h2)
structure OutI (FS : List Fu) (WS : List Ex) (σ : ByteArray → Nat) (a : Nat) (es : List (ByteArray × T)) (ag : Bool) : Prop where
  map : MapIs σ es
  sound : Sound FS WS σ a
  shut : ag = false → (∀ f ∈ FS, Shut σ a f) ∧ ∀ v ∈ WS, ShutV σ a v
structure InF (FS : List Fu) (WS : List Ex) (r0 a k : Nat) (σ : ByteArray → Nat) (es : List (ByteArray × T)) (ag : Bool) : Prop where
  map : MapIs σ es
  sound : Sound FS WS σ a
  le : room FS σ a ≤ r0
  lt : ag = true → room FS σ a < r0
  shut : ag = false → ∀ f ∈ FS.take k, Shut σ a f
structure InV (FS : List Fu) (WS : List Ex) (r0 : Nat) (σ : ByteArray → Nat) (es : List (ByteArray × T)) (k a : Nat) (ag : Bool) : Prop where
  map : MapIs σ es
  sound : Sound FS WS σ a
  le : room FS σ a ≤ r0
  lt : ag = true → room FS σ a < r0
  shut : ag = false → (∀ f ∈ FS, Shut σ a f) ∧ ∀ v ∈ WS.take k, ShutV σ a v
theorem OutI.start (FS : List Fu) (WS : List Ex) : OutI FS WS (fun _ => 0) 0 [] true := ⟨MapIs.nil, Sound.init FS WS, fun h => by cases h⟩
theorem InF.start {FS : List Fu} {WS : List Ex} {σ : ByteArray → Nat} {a : Nat} {es : List (ByteArray × T)} {ag : Bool} (h : OutI FS WS σ a es ag) : InF FS WS (room FS σ a) a 0 σ es false :=
  ⟨h.map, h.sound, Nat.le_refl _, (fun h => by cases h), (fun _ f hf => by rw [List.take_zero] at hf; cases hf)⟩
theorem InF.stay {FS : List Fu} {WS : List Ex} {r0 a k : Nat} {σ : ByteArray → Nat} {es : List (ByteArray × T)} {ag : Bool} (h : InF FS WS r0 a k σ es ag) {f : Fu} (hf : FS[k]? = some f) (e : σ f.name ||| f.body.eqn.eval σ a = σ f.name) : InF FS WS r0 a (k + 1) σ es ag :=
  ⟨h.map, h.sound, h.le, h.lt, fun ha x hx => (take_mem hf x hx).elim (h.shut ha x) fun e' => by subst e'; exact e⟩
theorem InF.put {FS : List Fu} {WS : List Ex} {r0 a k : Nat} {σ : ByteArray → Nat} {es : List (ByteArray × T)} {ag : Bool} (h : InF FS WS r0 a k σ es ag) {f : Fu} (hf : FS[k]? = some f) (e : ¬ σ f.name ||| f.body.eqn.eval σ a = σ f.name) :
    InF FS WS r0 a (k + 1) (updS σ f.name (σ f.name ||| f.body.eqn.eval σ a)) (mput f.name (.lit (.int .i64 ((σ f.name ||| f.body.eqn.eval σ a : Nat) : Int))) es) true := by
  have hm := List.mem_of_getElem? hf
  have h1 := room_name h.sound hm e
  have h2 := h.le
  exact ⟨h.map.put _ _, h.sound.name hm, by omega, fun _ => by omega, fun ha => by cases ha⟩
theorem InV.start {FS : List Fu} {WS : List Ex} {r0 a : Nat} {σ : ByteArray → Nat} {es : List (ByteArray × T)} {ag : Bool} (h : InF FS WS r0 a FS.length σ es ag) : InV FS WS r0 σ es 0 a ag :=
  ⟨h.map, h.sound, h.le, h.lt, fun ha => ⟨fun f hf => h.shut ha f (by rw [List.take_length]; exact hf), fun v hv => by rw [List.take_zero] at hv; cases hv⟩⟩
theorem InV.stay {FS : List Fu} {WS : List Ex} {r0 a k : Nat} {σ : ByteArray → Nat} {es : List (ByteArray × T)} {ag : Bool} (h : InV FS WS r0 σ es k a ag) {v : Ex} (hv : WS[k]? = some v) (e : a ||| v.eqn.eval σ a = a) : InV FS WS r0 σ es (k + 1) a ag :=
  ⟨h.map, h.sound, h.le, h.lt, fun ha => ⟨(h.shut ha).1, fun x hx => (take_mem hv x hx).elim ((h.shut ha).2 x) fun e' => by subst e'; exact e⟩⟩
theorem InV.put {FS : List Fu} {WS : List Ex} {r0 a k : Nat} {σ : ByteArray → Nat} {es : List (ByteArray × T)} {ag : Bool} (h : InV FS WS r0 σ es k a ag) {v : Ex} (hv : WS[k]? = some v) (e : ¬ a ||| v.eqn.eval σ a = a) : InV FS WS r0 σ es (k + 1) (a ||| v.eqn.eval σ a) true := by
  have hm := List.mem_of_getElem? hv
  have h1 := room_any h.sound hm e
  have h2 := h.le
  exact ⟨h.map, h.sound.any hm, by omega, fun _ => by omega, fun ha => by cases ha⟩
theorem OutI.next {FS : List Fu} {WS : List Ex} {r0 a : Nat} {σ : ByteArray → Nat} {es : List (ByteArray × T)} {ag : Bool} (h : InV FS WS r0 σ es WS.length a ag) : OutI FS WS σ a es ag ∧ 2 * room FS σ a + (bif ag then 1 else 0) < 2 * r0 + 1 := by
  refine ⟨⟨h.map, h.sound, fun ha => ⟨(h.shut ha).1, fun v hv => (h.shut ha).2 v (by rw [List.take_length]; exact hv)⟩⟩, ?_⟩
  have h1 := h.le
  cases ag with
  | false => simp only [cond_false]; omega
  | true => have h2 := h.lt rfl; simp only [cond_true]; omega
set_option maxRecDepth 100000 in
set_option maxHeartbeats 4000000 in
theorem solve_ag (p : Pr) (hbl : p.bodies.length ≤ 1048576) (hwl : ∀ b ∈ p.bodies, b.walk.length ≤ 1048576) (hvl : p.values.length ≤ 1048576) (hvw : ∀ v ∈ p.values, v.walk.length ≤ 1048576) : AG Try.prog 102 [.c p.t] [] (SolveR p.funs p.values) := by
  have hfl : p.funs.length ≤ 1048576 := by
    simp only [Pr.bodies, List.length_append, List.length_map] at hbl; omega
  have hcf := funs_af p hfl
  have hcb := bodies_af p hbl
  have hfw : ∀ f ∈ p.funs, f.body.walk.length ≤ 1048576 := fun f hf => hwl _ (by
    rw [Pr.bodies]
    exact List.mem_append_left _ (List.mem_map_of_mem hf))
  rw [vals_eq] at hvl hvw ⊢
  generalize p.funs = FS at *
  generalize p.bodies = bl at *
  obtain ⟨nm, vr, us, ds, trs, ims, fus, acs⟩ := p
  refine ag_enter 4 tok Try.func102 Try.ntmps102 Try.results102 rfl (by kernel_rfl) rfl fun F => ?_
  repeat (first | refine gG ?_ | refine zN1 (fun hlen => ?_) | refine zN2 (fun hlen => ?_) | refine zAl (fun _ => ?_) | refine zBf ?_ | refine zAp (fun _ => ?_))
  refine zCall (hcf) ?_
  rintro _ rfl
  clear hcf
  repeat (first | refine gG ?_ | refine zN1 (fun hlen => ?_) | refine zN2 (fun hlen => ?_) | refine zAl (fun _ => ?_) | refine zBx (fun _ => ?_) | refine zAp (fun _ => ?_))
  rename_i b0
  refine x_own 4 210 3 rfl rfl rfl rfl rfl ?_
  refine x_loop [4, 7, 24, 25, 26, 27, 28, 29, 30, 31, 32, 33, 34] (fun y : Nat × Value => [(24, .c (.lit (.int .i64 (y.1 : Nat)))), (4, .own 1 y.2)]) (fun y => [.box b0 206 [.c (.lit (.map none)), .c (.lit (.int .i64 0))], .row y.2 210 3 ((FS.take y.1).map fbody).length (Qn.all ((FS.take y.1).map fbody))])
    (fun y => y.1 ≤ FS.length) (fun y => FS.length - y.1) (0, .slice none 0 0) (Nat.zero_le _) ⟨rfl, rfl, trivial⟩ rfl ?_
  · rintro ⟨k, v⟩ hk
    dsimp only at hk ⊢
    repeat (first | refine gG ?_ | refine zN1 (fun hlen => ?_) | refine zN2 (fun hlen => ?_) | refine zAl (fun _ => ?_) | refine zBx (fun _ => ?_) | refine zAp (fun _ => ?_))
    refine x_cond rfl (fun h => ?_) (fun h => ?_)
    · have hk' : k < FS.length := by simpa using h
      obtain ⟨a, ha⟩ := nth hk'
      have hl1 := takem_len fbody ha
      have hc1 := Qn.all_snoc fbody ha
      have hle : ((FS.take k).map fbody).length ≤ FS.length := by rw [List.length_map, List.length_take]; omega
      have hof := of_af a.body (hfw a (List.mem_of_getElem? ha))
      clear h
      repeat (first | refine gG ?_ | refine zN1 (fun hlen => ?_) | refine zN2 (fun hlen => ?_) | refine zAl (fun _ => ?_) | refine zBx (fun _ => ?_) | refine zAp (fun _ => ?_))
      refine zIx (k) (hk') ?_
      repeat (first | refine gG ?_ | refine zN1 (fun hlen => ?_) | refine zN2 (fun hlen => ?_) | refine zAl (fun _ => ?_) | refine zBx (fun _ => ?_) | refine zAp (fun _ => ?_))
      refine zEl (Fu.at ha) (Fu.ts_len a) ?_
      change Qn.all ((FS.take (k + 1)).map fbody) = _ ++ a.body.eqn.ts at hc1
      obtain ⟨fn, fpa, fna, fty, ⟨ko, no, lo⟩, fb⟩ := a
      dsimp only at hof hc1
      generalize fb.eqn = q at *
      obtain ⟨qo, qc, qa⟩ := q
      obtain ⟨kb, nb, tb, nsb, ysb, lb, rsb, pb⟩ := fb
      repeat (first | refine gG ?_ | refine zN1 (fun hlen => ?_) | refine zN2 (fun hlen => ?_) | refine zAl (fun _ => ?_) | refine zBx (fun _ => ?_) | refine zAp (fun _ => ?_))
      refine zCall (hof) ?_
      rintro _ rfl
      clear hof
      repeat (first | refine gG ?_ | refine zN1 (fun hlen => ?_) | refine zN2 (fun hlen => ?_) | refine zAl (fun _ => ?_) | refine zBx (fun _ => ?_) | refine zAp (fun _ => ?_))
      exact ⟨(k + 1, _), hk', by simp only; omega, x_wkd 2 ⟨rfl, rfl, trivial⟩ (by simp only [hl1, hc1]; rfl) (by repeat (first | exact ag_refl | refine ag_upd rfl ?_ | refine ag_at rfl rfl ?_))⟩
    · have hk' : k = FS.length := by
        have : ¬ k < FS.length := by simpa using h
        omega
      subst hk'
      clear h
      rw [List.take_length]
      refine x_fz 4 rfl rfl rfl rfl ?_
      repeat (first | refine gG ?_ | refine zN1 (fun hlen => ?_) | refine zN2 (fun hlen => ?_) | refine zAl (fun _ => ?_) | refine zBx (fun _ => ?_) | refine zAp (fun _ => ?_))
      refine zCall (hcb) ?_
      rintro _ rfl
      clear hcb
      repeat (first | refine gG ?_ | refine zN1 (fun hlen => ?_) | refine zN2 (fun hlen => ?_) | refine zAl (fun _ => ?_) | refine zBx (fun _ => ?_) | refine zAp (fun _ => ?_))
      refine x_own 5 210 3 rfl rfl rfl rfl rfl ?_
      refine x_loop [5, 9, 11, 38, 39, 40, 41, 42, 43, 44, 45, 46, 47, 48, 49, 50, 51, 52, 53, 54, 55, 56, 57, 58] (fun y : Nat × Value => [(38, .c (.lit (.int .i64 (y.1 : Nat)))), (5, .own 2 y.2)]) (fun y => [.box b0 206 [.c (.lit (.map none)), .c (.lit (.int .i64 0))], .dead, .row y.2 210 3 (((bl.take y.1).flatMap vals).map Ex.eqn).length (Qn.all (((bl.take y.1).flatMap vals).map Ex.eqn))])
        (fun y => y.1 ≤ bl.length) (fun y => bl.length - y.1) (0, .slice none 0 0) (Nat.zero_le _) ⟨rfl, rfl, trivial⟩ rfl ?_
      rintro ⟨k, u⟩ hk
      dsimp only at hk ⊢
      repeat (first | refine gG ?_ | refine zN1 (fun hlen => ?_) | refine zN2 (fun hlen => ?_) | refine zAl (fun _ => ?_) | refine zBx (fun _ => ?_) | refine zAp (fun _ => ?_))
      refine x_cond rfl (fun h => ?_) (fun h => ?_)
      · have hk' : k < bl.length := by simpa using h
        obtain ⟨b, hb⟩ := nth hk'
        have hwb := walk_af b (hwl b (List.mem_of_getElem? hb))
        have hsn := flat_snoc' vals hb
        have hle := flatl_le vals bl (k + 1)
        rw [hsn] at hle
        have hvb : ∀ v ∈ b.walk, isFun v = true → v.walk.length ≤ 1048576 := fun v h1 h2 => hvw v (List.mem_flatMap.2 ⟨b, List.mem_of_getElem? hb, List.mem_filter.2 ⟨h1, h2⟩⟩)
        clear h
        rw [show vals b = b.walk.filter isFun from rfl] at hsn hle
        generalize (bl.take k).flatMap vals = A at *
        generalize b.walk = WK at *
        have hat := Ex.at hb
        obtain ⟨kb, nb, tb, nsb, ysb, lb, rsb, pb⟩ := b
        repeat (first | refine gG ?_ | refine zN1 (fun hlen => ?_) | refine zN2 (fun hlen => ?_) | refine zAl (fun _ => ?_) | refine zBx (fun _ => ?_) | refine zAp (fun _ => ?_))
        refine zIx (k) (hk') ?_
        repeat (first | refine gG ?_ | refine zN1 (fun hlen => ?_) | refine zN2 (fun hlen => ?_) | refine zAl (fun _ => ?_) | refine zBx (fun _ => ?_) | refine zAp (fun _ => ?_))
        refine zEl (hat) (Ex.ts_len _) ?_
        repeat (first | refine gG ?_ | refine zN1 (fun hlen => ?_) | refine zN2 (fun hlen => ?_) | refine zAl (fun _ => ?_) | refine zBx (fun _ => ?_) | refine zAp (fun _ => ?_))
        refine zCall (hwb) ?_
        rintro _ rfl
        clear hwb
        repeat (first | refine gG ?_ | refine zN1 (fun hlen => ?_) | refine zN2 (fun hlen => ?_) | refine zAl (fun _ => ?_) | refine zBx (fun _ => ?_) | refine zAp (fun _ => ?_))
        refine x_drop 3 rfl ?_
        refine x_loop [5, 11, 45, 46, 47, 48, 49, 50, 51, 52, 53, 54, 55, 56, 57] (fun y : Nat × Value => [(45, .c (.lit (.int .i64 (y.1 : Nat)))), (5, .own 2 y.2)]) (fun y => [.box b0 206 [.c (.lit (.map none)), .c (.lit (.int .i64 0))], .dead, .row y.2 210 3 ((A ++ (WK.take y.1).filter isFun).map Ex.eqn).length (Qn.all ((A ++ (WK.take y.1).filter isFun).map Ex.eqn))])
          (fun y => y.1 ≤ WK.length) (fun y => WK.length - y.1) (0, u) (Nat.zero_le _) ⟨rfl, rfl, trivial⟩ (by first | (simp only [List.take_zero, List.filter_nil, List.append_nil]; done) | (simp only [List.take_zero, List.filter_nil, List.append_nil]; rfl)) ?_
        rintro ⟨j, w⟩ hj
        dsimp only at hj ⊢
        repeat (first | refine gG ?_ | refine zN1 (fun hlen => ?_) | refine zN2 (fun hlen => ?_) | refine zAl (fun _ => ?_) | refine zBx (fun _ => ?_) | refine zAp (fun _ => ?_))
        refine x_cond rfl (fun h => ?_) (fun h => ?_)
        · have hj' : j < WK.length := by simpa using h
          obtain ⟨a, ha⟩ := nth hj'
          have hlj := filt_le isFun WK (j + 1)
          have hsj := filt_snoc isFun ha
          rw [hsj] at hlj
          have hof := fun h2 => of_af a (hvb a (List.mem_of_getElem? ha) h2)
          have hat2 := Ex.at ha
          have hon := Qn.all_one (A ++ (WK.take j).filter isFun) a
          clear h hvb hvw
          rw [List.length_append] at hle
          have hkd : isFun a = decide (a.kd = 10) := rfl
          cases d1 : decide (a.kd = 10)
          · rw [hkd, d1, cond_false, List.append_nil] at hsj
            obtain ⟨ka, na, ta, nsa, ysa, la, rsa, qa⟩ := a
            replace d1 : decide (ka = 10) = false := d1
            repeat (first | refine gG ?_ | refine zN1 (fun hlen => ?_) | refine zN2 (fun hlen => ?_) | refine zAl (fun _ => ?_) | refine zBx (fun _ => ?_) | refine zAp (fun _ => ?_))
            refine zIx (j) (hj') ?_
            repeat (first | refine gG ?_ | refine zN1 (fun hlen => ?_) | refine zN2 (fun hlen => ?_) | refine zAl (fun _ => ?_) | refine zBx (fun _ => ?_) | refine zAp (fun _ => ?_))
            refine zEl (hat2) (Ex.ts_len _) ?_
            repeat (first | refine gG ?_ | refine zN1 (fun hlen => ?_) | refine zN2 (fun hlen => ?_) | refine zAl (fun _ => ?_) | refine zBx (fun _ => ?_) | refine zAp (fun _ => ?_))
            exact ⟨(j + 1, w), hj', by simp only; omega, x_wkd 3 ⟨rfl, rfl, trivial⟩ (by simp only [hsj]; rfl) (by repeat (first | exact ag_refl | refine ag_upd rfl ?_ | refine ag_at rfl rfl ?_))⟩
          · rw [hkd, d1, cond_true] at hsj hlj
            replace hof := hof (hkd.trans d1)
            have hlk : ((A ++ (WK.take j).filter isFun).map Ex.eqn).length + 1 ≤ 1048576 := by
              simp only [List.length_append, List.length_cons, List.length_nil, List.length_map] at hlj ⊢
              omega
            have hf1 : ((A ++ (WK.take (j + 1)).filter isFun).map Ex.eqn).length = ((A ++ (WK.take j).filter isFun).map Ex.eqn).length + 1 := by rw [hsj, ← List.append_assoc, hon.1]
            have hf2 : Qn.all ((A ++ (WK.take (j + 1)).filter isFun).map Ex.eqn) = Qn.all ((A ++ (WK.take j).filter isFun).map Ex.eqn) ++ a.eqn.ts := by rw [hsj, ← List.append_assoc, hon.2]
            clear hsj hlj hon
            generalize ((A ++ (WK.take j).filter isFun).map Ex.eqn) = AA at *
            generalize a.eqn = q at *
            obtain ⟨qo, qc, qa⟩ := q
            obtain ⟨ka, na, ta, nsa, ysa, la, rsa, qa⟩ := a
            replace d1 : decide (ka = 10) = true := d1
            repeat (first | refine gG ?_ | refine zN1 (fun hlen => ?_) | refine zN2 (fun hlen => ?_) | refine zAl (fun _ => ?_) | refine zBx (fun _ => ?_) | refine zAp (fun _ => ?_))
            refine zIx (j) (hj') ?_
            repeat (first | refine gG ?_ | refine zN1 (fun hlen => ?_) | refine zN2 (fun hlen => ?_) | refine zAl (fun _ => ?_) | refine zBx (fun _ => ?_) | refine zAp (fun _ => ?_))
            refine zEl (hat2) (Ex.ts_len _) ?_
            repeat (first | refine gG ?_ | refine zN1 (fun hlen => ?_) | refine zN2 (fun hlen => ?_) | refine zAl (fun _ => ?_) | refine zBx (fun _ => ?_) | refine zAp (fun _ => ?_))
            refine zCall (hof) ?_
            rintro _ rfl
            clear hof
            repeat (first | refine gG ?_ | refine zN1 (fun hlen => ?_) | refine zN2 (fun hlen => ?_) | refine zAl (fun _ => ?_) | refine zBx (fun _ => ?_) | refine zAp (fun _ => ?_))
            exact ⟨(j + 1, _), hj', by simp only; omega, x_wkd 3 ⟨rfl, rfl, trivial⟩ (by simp only [hf1, hf2]; rfl) (by repeat (first | exact ag_refl | refine ag_upd rfl ?_ | refine ag_at rfl rfl ?_))⟩
        · have hj' : j = WK.length := by
            have : ¬ j < WK.length := by simpa using h
            omega
          subst hj'
          clear h
          rw [List.take_length]
          repeat (first | refine gG ?_ | refine zN1 (fun hlen => ?_) | refine zN2 (fun hlen => ?_) | refine zAl (fun _ => ?_) | refine zBx (fun _ => ?_) | refine zAp (fun _ => ?_))
          exact ⟨(k + 1, w), hk', by simp only; omega, x_wkd 3 ⟨rfl, rfl, trivial⟩ (by simp only [hsn]; rfl) (by repeat (first | exact ag_refl | refine ag_upd rfl ?_ | refine ag_at rfl rfl ?_))⟩
      · have hk' : k = bl.length := by
          have : ¬ k < bl.length := by simpa using h
          omega
        subst hk'
        clear h
        rw [List.take_length]
        generalize bl.flatMap vals = WS at *
        refine x_fz 5 rfl rfl rfl rfl ?_
        repeat (first | refine gG ?_ | refine zN1 (fun hlen => ?_) | refine zN2 (fun hlen => ?_) | refine zAl (fun _ => ?_) | refine zBx (fun _ => ?_) | refine zAp (fun _ => ?_))
        refine zMm (fun bm => ?_)
        repeat (first | refine gG ?_ | refine zN1 (fun hlen => ?_) | refine zN2 (fun hlen => ?_) | refine zAl (fun _ => ?_) | refine zBx (fun _ => ?_) | refine zAp (fun _ => ?_))
        rename_i b12
        clear hwl hbl
        refine x_keep [(2, .ptr 0 b0 0), (3, .c (Fu.row FS)), (4, .c (.row (FS.map fbody).length 3 (Qn.all (FS.map fbody)))), (5, .c (.row (WS.map Ex.eqn).length 3 (Qn.all (WS.map Ex.eqn)))), (12, .ptr 4 b12 0), (13, .c (.lit (.bool true)))] ⟨rfl, rfl, rfl, rfl, rfl, rfl, trivial⟩ ?_
        refine x_loop [13, 14, 15, 16, 18, 19, 61, 62, 63, 64, 65, 66, 67, 68, 69, 70, 71, 72, 73, 74, 75, 76, 77, 78, 79, 80, 81, 82, 83, 84, 85, 86, 87, 88, 89, 90, 91, 92, 93, 94, 95, 96, 97, 98, 99, 100, 101, 102, 103, 104, 105, 106, 107, 108, 109, 110, 111, 112] (fun y : (ByteArray → Nat) × Nat × List (ByteArray × T) × Bool => [(13, .c (.lit (.bool y.2.2.2)))]) (fun y => [.box b0 206 [.c (.lit (.map none)), .c (.lit (.int .i64 0))], .dead, .dead, .mp bm (mkeys Value.string y.2.2.1), .box b12 206 [.own 3 (.map (some bm)), .c (.lit (.int .i64 ((y.2.1 : Nat) : Int)))]])
          (fun y => OutI FS WS y.1 y.2.1 y.2.2.1 y.2.2.2) (fun y => 2 * room FS y.1 y.2.1 + (bif y.2.2.2 then 1 else 0)) ((fun _ => 0), 0, [], true) (OutI.start FS WS) ⟨rfl, trivial⟩ rfl ?_
        rintro ⟨σ, a, es, ag⟩ hI
        dsimp only at hI ⊢
        repeat (first | refine gG ?_ | refine zN1 (fun hlen => ?_) | refine zN2 (fun hlen => ?_) | refine zAl (fun _ => ?_) | refine zBx (fun _ => ?_) | refine zAp (fun _ => ?_))
        refine x_cond rfl (fun h => ?_) (fun h => ?_)
        · subst h
          replace hI := InF.start hI
          obtain ⟨r0, hr0⟩ : ∃ r0, r0 = room FS σ a := ⟨_, rfl⟩
          rw [← hr0] at hI
          repeat (first | refine gG ?_ | refine zN1 (fun hlen => ?_) | refine zN2 (fun hlen => ?_) | refine zAl (fun _ => ?_) | refine zBx (fun _ => ?_) | refine zAp (fun _ => ?_))
          refine x_loop [13, 14, 15, 16, 64, 65, 66, 67, 68, 69, 70, 71, 72, 73, 74, 75, 76, 77, 78, 79, 80, 81, 82, 83, 84, 85, 86, 87, 88, 89, 90, 91, 92, 93] (fun y : Nat × (ByteArray → Nat) × List (ByteArray × T) × Bool => [(64, .c (.lit (.int .i64 (y.1 : Nat)))), (13, .c (.lit (.bool y.2.2.2)))]) (fun y => [.box b0 206 [.c (.lit (.map none)), .c (.lit (.int .i64 0))], .dead, .dead, .mp bm (mkeys Value.string y.2.2.1), .box b12 206 [.own 3 (.map (some bm)), .c (.lit (.int .i64 ((a : Nat) : Int)))]])
            (fun y => y.1 ≤ FS.length ∧ InF FS WS r0 a y.1 y.2.1 y.2.2.1 y.2.2.2) (fun y => FS.length - y.1) (0, σ, es, false) ⟨Nat.zero_le _, hI⟩ ⟨rfl, rfl, trivial⟩ rfl ?_
          clear hI
          rintro ⟨k, σ', es, ag⟩ ⟨hk, hI⟩
          dsimp only at hk hI ⊢
          repeat (first | refine gG ?_ | refine zN1 (fun hlen => ?_) | refine zN2 (fun hlen => ?_) | refine zAl (fun _ => ?_) | refine zBx (fun _ => ?_) | refine zAp (fun _ => ?_))
          refine x_cond rfl (fun h => ?_) (fun h => ?_)
          · have hk' : k < FS.length := by simpa using h
            obtain ⟨f, hf⟩ := nth hk'
            have hq := Qn.at' (fbody_at hf)
            have hkq : k < (FS.map fbody).length := by rw [List.length_map]; exact hk'
            have hat := Fu.at hf
            have hev := eval_lt hI.sound f.body
            have hsf := hI.sound.2.2.1 f.name
            have hl1 := hI.map f.name
            have hcall := evalQ_ag f.body.eqn f.body.own_lt σ' hI.sound.2.2.1 a hI.sound.2.2.2 es hI.map bm
            have hstay := fun e => hI.stay hf e
            have hput := fun e => hI.put hf e
            clear h hf hI
            obtain ⟨fn, fpa, fna, fty, ⟨ko, no, lo⟩, fb⟩ := f
            dsimp only at hq hev hsf hl1 hcall hstay hput
            generalize fb.eqn.eval σ' a = ev at *
            generalize fb.eqn = q at *
            generalize hsx : σ' fn = sx at *
            obtain ⟨qo, qc, qa⟩ := q
            obtain ⟨kb, nb, tb, nsb, ysb, lb, rsb, pb⟩ := fb
            repeat (first | refine gG ?_ | refine zN1 (fun hlen => ?_) | refine zN2 (fun hlen => ?_) | refine zAl (fun _ => ?_) | refine zBx (fun _ => ?_) | refine zAp (fun _ => ?_))
            refine zIx (k) (hk') ?_
            repeat (first | refine gG ?_ | refine zN1 (fun hlen => ?_) | refine zN2 (fun hlen => ?_) | refine zAl (fun _ => ?_) | refine zBx (fun _ => ?_) | refine zAp (fun _ => ?_))
            refine zEl (hat) (Fu.ts_len _) ?_
            repeat (first | refine gG ?_ | refine zN1 (fun hlen => ?_) | refine zN2 (fun hlen => ?_) | refine zAl (fun _ => ?_) | refine zBx (fun _ => ?_) | refine zAp (fun _ => ?_))
            refine ac_draw [1, 1, 1, 1, 1, 1, 1, 1, 1, 1, 1, 1, 1] [0, 1, 2, 3, 4, 5, 6, 7, 8, 9, 10, 11, 12] (by kernel_rfl) (by kernel_rfl) ?_
            refine gW ?_
            apply w_q; (focus exact rfl); (focus exact rfl); focus (intro _; (refine zLks tidS tidI hl1 ?_); exact det_refl)
            refine gW ?_
            apply w_q; (focus exact rfl); (focus exact rfl); focus (intro _; (refine zIx k hkq ?_); exact det_refl)
            apply w_q; (focus exact rfl); (focus exact rfl); focus (intro _; (refine zEl hq (Qn.ts_len _) ?_); exact det_refl)
            apply w_q; (focus exact rfl); (focus exact rfl); focus (intro _; (refine zCallR [3] hcall (fun _ _ h => h) ?_); exact det_refl)
            apply w_q; (focus exact rfl); (focus exact rfl); focus (intro _; (refine zOrN ?_); exact det_refl)
            refine gW ?_
            refine w_nil ?_
            repeat (first | refine gG ?_ | refine zN1 (fun hlen => ?_) | refine zN2 (fun hlen => ?_) | refine zAl (fun _ => ?_) | refine zBx (fun _ => ?_) | refine zAp (fun _ => ?_))
            refine zLks tidS tidI hl1 ?_
            repeat (first | refine gG ?_ | refine zN1 (fun hlen => ?_) | refine zN2 (fun hlen => ?_) | refine zAl (fun _ => ?_) | refine zBx (fun _ => ?_) | refine zAp (fun _ => ?_))
            refine x_cond rfl (fun h => ?_) (fun h => ?_)
            · have hne : ¬ sx ||| ev = sx := fun e => by rw [e] at h; simp at h
              replace hput := hput hne
              clear h hstay hcall
              repeat (first | refine gG ?_ | refine zN1 (fun hlen => ?_) | refine zN2 (fun hlen => ?_) | refine zAl (fun _ => ?_) | refine zBx (fun _ => ?_) | refine zAp (fun _ => ?_))
              refine zUps tidS tidI ?_
              repeat (first | refine gG ?_ | refine zN1 (fun hlen => ?_) | refine zN2 (fun hlen => ?_) | refine zAl (fun _ => ?_) | refine zBx (fun _ => ?_) | refine zAp (fun _ => ?_))
              exact ⟨(k + 1, _, _, _), ⟨hk', hput⟩, by simp only; omega, x_wkd 5 ⟨rfl, rfl, trivial⟩ rfl (by repeat (first | exact ag_refl | refine ag_upd rfl ?_ | refine ag_at rfl rfl ?_))⟩
            · have he : sx ||| ev = sx := Int.ofNat.inj (by simpa using h)
              replace hstay := hstay he
              clear h hput hcall
              repeat (first | refine gG ?_ | refine zN1 (fun hlen => ?_) | refine zN2 (fun hlen => ?_) | refine zAl (fun _ => ?_) | refine zBx (fun _ => ?_) | refine zAp (fun _ => ?_))
              exact ⟨(k + 1, _, _, _), ⟨hk', hstay⟩, by simp only; omega, x_wkd 5 ⟨rfl, rfl, trivial⟩ rfl (by repeat (first | exact ag_refl | refine ag_upd rfl ?_ | refine ag_at rfl rfl ?_))⟩
          · have hk' : k = FS.length := by
              have : ¬ k < FS.length := by simpa using h
              omega
            subst hk'
            clear h
            replace hI := InV.start hI
            repeat (first | refine gG ?_ | refine zN1 (fun hlen => ?_) | refine zN2 (fun hlen => ?_) | refine zAl (fun _ => ?_) | refine zBx (fun _ => ?_) | refine zAp (fun _ => ?_))
            refine x_loop [13, 18, 19, 96, 97, 98, 99, 100, 101, 102, 103, 104, 105, 106, 107, 108, 109, 110, 111, 112] (fun y : Nat × Nat × Bool => [(96, .c (.lit (.int .i64 (y.1 : Nat)))), (13, .c (.lit (.bool y.2.2)))]) (fun y => [.box b0 206 [.c (.lit (.map none)), .c (.lit (.int .i64 0))], .dead, .dead, .mp bm (mkeys Value.string es), .box b12 206 [.own 3 (.map (some bm)), .c (.lit (.int .i64 ((y.2.1 : Nat) : Int)))]])
              (fun y => y.1 ≤ WS.length ∧ InV FS WS r0 σ' es y.1 y.2.1 y.2.2) (fun y => WS.length - y.1) (0, a, ag) ⟨Nat.zero_le _, hI⟩ ⟨rfl, rfl, trivial⟩ rfl ?_
            clear hI
            rintro ⟨k, a', ag⟩ ⟨hk, hI⟩
            dsimp only at hk hI ⊢
            repeat (first | refine gG ?_ | refine zN1 (fun hlen => ?_) | refine zN2 (fun hlen => ?_) | refine zAl (fun _ => ?_) | refine zBx (fun _ => ?_) | refine zAp (fun _ => ?_))
            refine x_cond rfl (fun h => ?_) (fun h => ?_)
            · have hk' : k < WS.length := by simpa using h
              obtain ⟨v, hv⟩ := nth hk'
              have hv' : (WS.map Ex.eqn)[k]? = some v.eqn := by rw [List.getElem?_map, hv]; rfl
              have hq := Qn.at' hv'
              have hkq : k < (WS.map Ex.eqn).length := by rw [List.length_map]; exact hk'
              have hev := eval_lt hI.sound v
              have hsa := hI.sound.2.2.2
              have hcall := evalQ_ag v.eqn v.own_lt σ' hI.sound.2.2.1 a' hsa es hI.map bm
              have hstay := fun e => hI.stay hv e
              have hput := fun e => hI.put hv e
              clear h hv hv' hI
              generalize v.eqn.eval σ' a' = ev at *
              generalize v.eqn = q at *
              obtain ⟨qo, qc, qa⟩ := q
              repeat (first | refine gG ?_ | refine zN1 (fun hlen => ?_) | refine zN2 (fun hlen => ?_) | refine zAl (fun _ => ?_) | refine zBx (fun _ => ?_) | refine zAp (fun _ => ?_))
              refine zIx (k) (hkq) ?_
              repeat (first | refine gG ?_ | refine zN1 (fun hlen => ?_) | refine zN2 (fun hlen => ?_) | refine zAl (fun _ => ?_) | refine zBx (fun _ => ?_) | refine zAp (fun _ => ?_))
              refine zEl (hq) (Qn.ts_len _) ?_
              repeat (first | refine gG ?_ | refine zN1 (fun hlen => ?_) | refine zN2 (fun hlen => ?_) | refine zAl (fun _ => ?_) | refine zBx (fun _ => ?_) | refine zAp (fun _ => ?_))
              refine ac_draw [1, 1, 1, 1, 1, 1, 1] [0, 1, 2, 3, 4, 5, 6] (by kernel_rfl) (by kernel_rfl) ?_
              refine gW ?_
              apply w_q; (focus exact rfl); (focus exact rfl); focus (intro _; (refine zCallR [3] hcall (fun _ _ h => h) ?_); exact det_refl)
              apply w_q; (focus exact rfl); (focus exact rfl); focus (intro _; (refine zOrN ?_); exact det_refl)
              refine gW ?_
              refine w_nil ?_
              repeat (first | refine gG ?_ | refine zN1 (fun hlen => ?_) | refine zN2 (fun hlen => ?_) | refine zAl (fun _ => ?_) | refine zBx (fun _ => ?_) | refine zAp (fun _ => ?_))
              refine x_cond rfl (fun h => ?_) (fun h => ?_)
              · have hne : ¬ a' ||| ev = a' := fun e => by rw [e] at h; simp at h
                replace hput := hput hne
                clear h hstay hcall
                repeat (first | refine gG ?_ | refine zN1 (fun hlen => ?_) | refine zN2 (fun hlen => ?_) | refine zAl (fun _ => ?_) | refine zBx (fun _ => ?_) | refine zAp (fun _ => ?_))
                exact ⟨(k + 1, _, _), ⟨hk', hput⟩, by simp only; omega, x_wkd 5 ⟨rfl, rfl, trivial⟩ rfl (by repeat (first | exact ag_refl | refine ag_upd rfl ?_ | refine ag_at rfl rfl ?_))⟩
              · have he : a' ||| ev = a' := Int.ofNat.inj (by simpa using h)
                replace hstay := hstay he
                clear h hput hcall
                repeat (first | refine gG ?_ | refine zN1 (fun hlen => ?_) | refine zN2 (fun hlen => ?_) | refine zAl (fun _ => ?_) | refine zBx (fun _ => ?_) | refine zAp (fun _ => ?_))
                exact ⟨(k + 1, _, _), ⟨hk', hstay⟩, by simp only; omega, x_wkd 5 ⟨rfl, rfl, trivial⟩ rfl (by repeat (first | exact ag_refl | refine ag_upd rfl ?_ | refine ag_at rfl rfl ?_))⟩
            · have hk' : k = WS.length := by
                have : ¬ k < WS.length := by simpa using h
                omega
              subst hk'
              clear h
              replace hI := OutI.next hI
              repeat (first | refine gG ?_ | refine zN1 (fun hlen => ?_) | refine zN2 (fun hlen => ?_) | refine zAl (fun _ => ?_) | refine zBx (fun _ => ?_) | refine zAp (fun _ => ?_))
              exact ⟨(σ', a', es, ag), hI.1, by simp only [hr0] at hI ⊢; simp only [cond_true]; omega, x_wkd 5 ⟨rfl, trivial⟩ rfl (by repeat (first | exact ag_refl | refine ag_upd rfl ?_ | refine ag_at rfl rfl ?_))⟩
        · subst h
          have hsh := hI.shut rfl
          have hmap := hI.map
          have hso := hI.sound
          clear hI
          repeat (first | refine gG ?_ | refine zN1 (fun hlen => ?_) | refine zN2 (fun hlen => ?_) | refine zAl (fun _ => ?_) | refine zBx (fun _ => ?_) | refine zAp (fun _ => ?_))
          refine zG ?_
          exact ⟨bm, es, σ, a, _, _, _, rfl, rfl, hmap, hso, hsh.1, hsh.2⟩
end Go.Proofs.Ytllgibfmddihgaa
namespace Go.Proofs.Ytllgibfmddihgaa
open Go.RowKit
theorem walkMass (e : Ex) : ∀ x ∈ e.walk, x.mass ≤ e.mass := by
  induction e using Ex.ind with
  | h k n t ns ys l rs p ih ihr =>
    intro x hx
    rw [Ex.walk, Ex.walks_eq, Ar.walks_eq] at hx
    rcases List.mem_cons.1 hx with rfl | hx
    · exact Nat.le_refl _
    · have hm : (Ex.mk k n t ns ys l rs p).mass = far k + far n + (t.size + 1) + (strSize ns + 1) + (Y.masses ys + 1) + ((l.map Ex.mass).sum + 1) + ((rs.map Ar.mass).sum + 1) + far p := by rw [Ex.mass, Ex.masses_sum, Ar.masses_sum]
      rcases List.mem_append.1 hx with hx | hx
      · obtain ⟨y, hy, hxy⟩ := List.mem_flatMap.1 hx
        have h1 := ih y hy x hxy
        have h2 := sum_mem' Ex.mass hy
        omega
      · obtain ⟨y, hy, hxy⟩ := List.mem_flatMap.1 hx
        obtain ⟨r, hr, rfl⟩ := List.mem_map.1 hy
        obtain ⟨q, b⟩ := r
        have h1 := ihr _ hr q b rfl x hxy
        have h2 := sum_mem' Ar.mass hr
        rw [Ar.mass] at h2
        omega
theorem Ex.walk_le (e : Ex) : e.walk.length ≤ e.mass := Nat.le_trans e.walk_count e.count_le
theorem Pr.body_mass (p : Pr) {b : Ex} (hb : b ∈ p.bodies) : b.mass ≤ p.mass := Nat.le_trans (sum_mem' Ex.mass hb) p.masses
theorem Pr.value_mass (p : Pr) {v : Ex} (hv : v ∈ p.values) : v.mass ≤ p.mass := by
  obtain ⟨b, hb, h⟩ := List.mem_flatMap.1 hv
  exact Nat.le_trans (walkMass b v (List.mem_filter.1 h).1) (p.body_mass hb)
theorem vals_le (l : List Ex) : (l.flatMap vals).length ≤ (l.map Ex.mass).sum := by
  induction l with
  | nil => exact Nat.le_refl _
  | cons a l ih =>
    have h1 := a.walk_le
    have h2 : (vals a).length ≤ a.walk.length := List.length_filter_le _ _
    rw [List.flatMap_cons, List.length_append, List.map_cons, List.sum_cons]
    omega
theorem Pr.values_le (p : Pr) : p.values.length ≤ p.mass := Nat.le_trans (vals_le p.bodies) p.masses
theorem Pr.funs_le (p : Pr) : p.funs.length ≤ p.mass := by
  have := p.bodies_le
  simp only [Pr.bodies, List.length_append, List.length_map] at this
  omega
theorem Pr.fun_mass (p : Pr) {f : Fu} (hf : f ∈ p.funs) : f.body.mass ≤ p.mass := p.body_mass (by
  rw [Pr.bodies]
  exact List.mem_append_left _ (List.mem_map_of_mem hf))
structure OutL (F : List Fu) (W : List Ex) (e : Ex) (i : Nat) (R : List Ex) (ns : List ByteArray) (ap : Bool) : Prop where
  led : Led F W e R ns ap
  le : i ≤ R.length
  seen : ∀ y ∈ R.take i, ∀ x ∈ y.walk, Seen ns ap x
  cnt : ns.length ≤ i * 1048576
structure InL (F : List Fu) (W : List Ex) (e : Ex) (Z : List Ex) (y : Ex) (j : Nat) (R : List Ex) (ns : List ByteArray) (ap : Bool) : Prop where
  led : Led F W e R ns ap
  pre : ∃ T, R = Z ++ y :: T
  old : ∀ z ∈ Z, ∀ x ∈ z.walk, Seen ns ap x
  now : ∀ x ∈ y.walk.take j, Seen ns ap x
  cnt : ns.length ≤ Z.length * 1048576 + j
theorem cnt0 {n i m : Nat} (h : n ≤ i * 1048576) (e : m = i) : n ≤ m * 1048576 + 0 := by subst e; rw [Nat.add_zero]; exact h
theorem OutL.start (F : List Fu) (W : List Ex) (e : Ex) : OutL F W e 0 [e] [] false := ⟨Led.init F W e, Nat.zero_le _, (fun y hy => by rw [List.take_zero] at hy; cases hy), Nat.zero_le _⟩
theorem InL.start {F : List Fu} {W : List Ex} {e : Ex} {i : Nat} {R : List Ex} {ns : List ByteArray} {ap : Bool} (h : OutL F W e i R ns ap) {y : Ex} (hy : R[i]? = some y) : InL F W e (R.take i) y 0 R ns ap :=
  ⟨h.led, ⟨R.drop (i + 1), by
    obtain ⟨h1, h2⟩ := List.getElem?_eq_some_iff.1 hy
    exact (List.take_append_drop i R).symm.trans (by rw [List.drop_eq_getElem_cons h1, h2])⟩, h.seen, (fun x hx => by rw [List.take_zero] at hx; cases hx), by
    have h1 := h.cnt
    have h2 := h.le
    have h3 : (R.take i).length = i := by rw [List.length_take]; omega
    exact cnt0 h1 h3⟩
theorem InL.stay {F : List Fu} {W : List Ex} {e y : Ex} {Z R : List Ex} {j : Nat} {ns : List ByteArray} {ap : Bool} (h : InL F W e Z y j R ns ap) {x : Ex} (hx : y.walk[j]? = some x) (hs : Seen ns ap x) : InL F W e Z y (j + 1) R ns ap :=
  ⟨h.led, h.pre, h.old, (fun z hz => (take_mem hx z hz).elim (h.now z) fun e' => by subst e'; exact hs), by have := h.cnt; omega⟩
theorem InL.mem {F : List Fu} {W : List Ex} {e y : Ex} {Z R : List Ex} {j : Nat} {ns : List ByteArray} {ap : Bool} (h : InL F W e Z y j R ns ap) : y ∈ R := by
  obtain ⟨T, rfl⟩ := h.pre
  simp
theorem InL.apply {F : List Fu} {W : List Ex} {e y : Ex} {Z R : List Ex} {j : Nat} {ns : List ByteArray} (h : InL F W e Z y j R ns false) {x : Ex} (hx : y.walk[j]? = some x) (hk : x.kd = 11) : InL F W e Z y (j + 1) (R ++ W) ns true := by
  have hl := h.led.apply h.mem (List.mem_of_getElem? hx) hk
  obtain ⟨T, hT⟩ := h.pre
  refine ⟨hl, ⟨T ++ W, by rw [hT, List.append_assoc]; rfl⟩, fun z hz w hw => (h.old z hz w hw).more (fun s hs => hs) (fun _ => rfl), fun z hz => ?_, by have := h.cnt; omega⟩
  rcases take_mem hx z hz with h1 | rfl
  · exact (h.now z h1).more (fun s hs => hs) (fun _ => rfl)
  · exact ⟨(fun h9 => by rw [hk] at h9; cases h9), fun _ => rfl⟩
theorem InL.call {F : List Fu} {W : List Ex} {e y : Ex} {Z R : List Ex} {j : Nat} {ns : List ByteArray} {ap : Bool} (h : InL F W e Z y j R ns ap) {x : Ex} (hx : y.walk[j]? = some x) (hk : x.kd = 9) (hs : hasS ns x.tx = false) : InL F W e Z y (j + 1) (R ++ (F.filter fun f => decide (f.name = x.tx)).map Fu.body) (ns ++ [x.tx]) ap := by
  have hl := h.led.call h.mem (List.mem_of_getElem? hx) hk hs
  obtain ⟨T, hT⟩ := h.pre
  refine ⟨hl, ⟨T ++ (F.filter fun f => decide (f.name = x.tx)).map Fu.body, by rw [hT, List.append_assoc]; rfl⟩, fun z hz w hw => (h.old z hz w hw).more (fun s hs => List.mem_append_left _ hs) id, fun z hz => ?_, by have := h.cnt; rw [List.length_append]; simp only [List.length_cons, List.length_nil]; omega⟩
  rcases take_mem hx z hz with h1 | rfl
  · exact (h.now z h1).more (fun s hs => List.mem_append_left _ hs) id
  · exact ⟨fun _ => by simp, fun h11 => by rw [hk] at h11; cases h11⟩
theorem InL.done {F : List Fu} {W : List Ex} {e y : Ex} {Z R : List Ex} {ns : List ByteArray} {ap : Bool} (h : InL F W e Z y y.walk.length R ns ap) (hy : y.walk.length ≤ 1048576) : OutL F W e (Z.length + 1) R ns ap := by
  have hn := h.now
  rw [List.take_length] at hn
  obtain ⟨T, hT⟩ := h.pre
  refine ⟨h.led, by rw [hT]; simp, fun z hz => ?_, by have := h.cnt; omega⟩
  rw [hT, show Z ++ y :: T = (Z ++ [y]) ++ T by simp, List.take_append_of_le_length (by simp), List.take_of_length_le (by simp)] at hz
  rcases List.mem_append.1 hz with h1 | h1
  · exact h.old z h1
  · rw [List.mem_singleton] at h1; subst h1; exact hn
theorem seen_has {ns : List ByteArray} {s : ByteArray} (h : hasS ns s = true) : s ∈ ns := by
  simp only [hasS, List.any_eq_true, decide_eq_true_eq] at h
  obtain ⟨y, hy, rfl⟩ := h
  exact hy
theorem OutL.does {F : List Fu} {W : List Ex} {e : Ex} {R : List Ex} {ns : List ByteArray} {ap : Bool} (h : OutL F W e R.length R ns ap) {D : Ex → Nat} (hD : DoOk F W D) : orL (R.map Ex.own) = D e :=
  h.led.does (by have := h.seen; rw [List.take_length] at this; exact this) hD
theorem led_mass {F : List Fu} {W : List Ex} {e : Ex} {M : Nat} (he : e.mass ≤ M) (hF : ∀ f ∈ F, f.body.mass ≤ M) (hW : ∀ v ∈ W, v.mass ≤ M) {y : Ex} (h : Leads F W e y) : y.mass ≤ M := by
  induction h with
  | here e => exact he
  | call _ _ hf _ _ ih => exact ih (hF _ hf)
  | app _ _ hv _ ih => exact ih (hW _ hv)
end Go.Proofs.Ytllgibfmddihgaa
