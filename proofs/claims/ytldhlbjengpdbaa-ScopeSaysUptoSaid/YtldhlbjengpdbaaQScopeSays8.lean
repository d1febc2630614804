/-
  Texts of this proof, part 8: Wsb Wsd.
-/
import Derived.Test.YtldhlbjengpdbaaQScopeSays7
import Derived.Laws.IdiomRangeMap
import Derived.Lib.AppendStr
import Derived.Lib.MinMax
namespace Go.Proofs.Ytldhlbjengpdbaa
open Go.RowKit
theorem pre_step {α : Type} (f : α → List ByteArray) {l : List α} {k : Nat} {a : α} (h : l[k]? = some a) : (l.take (k + 1)).flatMap f = (l.take k).flatMap f ++ f a := by
  obtain ⟨h1, rfl⟩ := List.getElem?_eq_some_iff.1 h
  rw [List.take_succ_eq_append_getElem h1, List.flatMap_append]
  simp
theorem pre_le {α : Type} (f : α → List ByteArray) (l : List α) (k : Nat) : ((l.take k).flatMap f).length ≤ (l.flatMap f).length := by
  have := congrArg (fun r => (List.flatMap f r).length) (List.take_append_drop k l)
  simp only [List.flatMap_append, List.length_append] at this
  omega
theorem tk_step {l : List ByteArray} {j : Nat} {s : ByteArray} (h : l[j]? = some s) : l.take (j + 1) = l.take j ++ [s] := by
  obtain ⟨h1, rfl⟩ := List.getElem?_eq_some_iff.1 h
  exact List.take_succ_eq_append_getElem h1
theorem seen_nil : SeenOk [] [] := fun s => rfl
set_option maxRecDepth 100000 in
set_option maxHeartbeats 2000000 in
theorem twice_af (l : List ByteArray) (hl : l.length ≤ 1048576) : AF Try.prog 16 [strRow l] (· = .lit (.bool (twB l))) := by
  refine af_enter tok Try.func16 Try.ntmps16 Try.results16 rfl (by kernel_rfl) rfl rfl fun F hX => ?_
  repeat (first | refine gG ?_ | refine zN1 (fun hlen => ?_) | refine zN2 (fun hlen => ?_))
  refine zMm (fun b => ?_)
  repeat (first | refine gG ?_ | refine zN1 (fun hlen => ?_) | refine zN2 (fun hlen => ?_))
  refine x_loop [2, 5, 9, 10, 11, 12, 13, 14, 15, 16, 17, 18] (fun y : Nat × List (ByteArray × T) => [(9, .c (.lit (.int .i64 (y.1 : Nat))))]) (fun y => [.mp b (mkeys Value.string y.2)]) (fun y => y.1 ≤ l.length ∧ SeenOk y.2 (l.take y.1) ∧ TwTo l y.1) (fun y => l.length - y.1) (0, []) ⟨Nat.zero_le _, seen_nil, twTo_zero l⟩ ⟨rfl, trivial⟩ rfl ?_
  rintro ⟨k, ms⟩ ⟨hk, hs, ht⟩
  dsimp only at hk hs ht ⊢
  repeat (first | refine gG ?_ | refine zN1 (fun hlen => ?_) | refine zN2 (fun hlen => ?_))
  refine x_cond rfl (fun h => ?_) (fun h => ?_)
  · have hk' : k < l.length := by simpa using h
    obtain ⟨s, hsk⟩ := nth hk'
    have hlk := hs s
    have hat := str_at1 hsk
    have hyes := twTo_yes ht hsk
    have hno := twTo_no ht hsk
    have hput := hs.put s
    rw [← tk_step hsk] at hput
    clear h hs ht
    cases d1 : hasS (l.take k) s
    · rw [d1] at hlk
      replace hno := hno d1
      repeat (first | refine gG ?_ | refine zN1 (fun hlen => ?_) | refine zN2 (fun hlen => ?_))
      refine zIx k hk' ?_
      repeat (first | refine gG ?_ | refine zN1 (fun hlen => ?_) | refine zN2 (fun hlen => ?_))
      refine zEl1 hat ?_
      repeat (first | refine gG ?_ | refine zN1 (fun hlen => ?_) | refine zN2 (fun hlen => ?_))
      refine zLks 9 4 hlk ?_
      repeat (first | refine gG ?_ | refine zN1 (fun hlen => ?_) | refine zN2 (fun hlen => ?_))
      refine zUps 9 4 ?_
      repeat (first | refine gG ?_ | refine zN1 (fun hlen => ?_) | refine zN2 (fun hlen => ?_))
      exact ⟨(k + 1, _), ⟨hk', hput, hno⟩, by simp only; omega, x_wkd 1 ⟨rfl, trivial⟩ rfl (by repeat (first | exact ag_refl | refine ag_upd rfl ?_ | refine ag_at rfl rfl ?_))⟩
    · rw [d1] at hlk
      rw [hyes d1]
      repeat (first | refine gG ?_ | refine zN1 (fun hlen => ?_) | refine zN2 (fun hlen => ?_))
      refine zIx k hk' ?_
      repeat (first | refine gG ?_ | refine zN1 (fun hlen => ?_) | refine zN2 (fun hlen => ?_))
      refine zEl1 hat ?_
      repeat (first | refine gG ?_ | refine zN1 (fun hlen => ?_) | refine zN2 (fun hlen => ?_))
      refine zLks 9 4 hlk ?_
      repeat (first | refine gG ?_ | refine zN1 (fun hlen => ?_) | refine zN2 (fun hlen => ?_))
      first | refine zR ?_ | refine zQ ?_
      rfl
  · have hk' : k = l.length := by have : ¬ k < l.length := by simpa using h
                                  omega
    subst hk'
    rw [twTo_end ht]
    repeat (first | refine gG ?_ | refine zN1 (fun hlen => ?_) | refine zN2 (fun hlen => ?_))
    first | refine zR ?_ | refine zQ ?_
    rfl
set_option maxRecDepth 100000 in
set_option maxHeartbeats 2000000 in
theorem set_ag (l : List ByteArray) (hl : l.length ≤ 1048576) : AG Try.prog 31 [.c (strRow l)] [] (fun r hs => ∃ b ms, r = .own 0 (.map (some b)) ∧ hs = [.mp b (mkeys Value.string ms)] ∧ SeenOk ms l) := by
  refine ag_enter (1) tok Try.func31 Try.ntmps31 Try.results31 rfl (by kernel_rfl) rfl fun F => ?_
  repeat (first | refine gG ?_ | refine zN1 (fun hlen => ?_) | refine zN2 (fun hlen => ?_))
  refine zMm (fun b => ?_)
  repeat (first | refine gG ?_ | refine zN1 (fun hlen => ?_) | refine zN2 (fun hlen => ?_))
  refine x_loop [5, 9, 10, 11, 12, 13, 14, 15] (fun y : Nat × List (ByteArray × T) => [(9, .c (.lit (.int .i64 (y.1 : Nat))))]) (fun y => [.mp b (mkeys Value.string y.2)]) (fun y => y.1 ≤ l.length ∧ SeenOk y.2 (l.take y.1)) (fun y => l.length - y.1) (0, []) ⟨Nat.zero_le _, seen_nil⟩ ⟨rfl, trivial⟩ rfl ?_
  rintro ⟨k, ms⟩ ⟨hk, hs⟩
  dsimp only at hk hs ⊢
  repeat (first | refine gG ?_ | refine zN1 (fun hlen => ?_) | refine zN2 (fun hlen => ?_))
  refine x_cond rfl (fun h => ?_) (fun h => ?_)
  · have hk' : k < l.length := by simpa using h
    obtain ⟨s, hsk⟩ := nth hk'
    have hat := str_at1 hsk
    have hput := hs.put s
    rw [← tk_step hsk] at hput
    clear h hs
    repeat (first | refine gG ?_ | refine zN1 (fun hlen => ?_) | refine zN2 (fun hlen => ?_))
    refine zIx k hk' ?_
    repeat (first | refine gG ?_ | refine zN1 (fun hlen => ?_) | refine zN2 (fun hlen => ?_))
    refine zEl1 hat ?_
    repeat (first | refine gG ?_ | refine zN1 (fun hlen => ?_) | refine zN2 (fun hlen => ?_))
    refine zUps 9 4 ?_
    repeat (first | refine gG ?_ | refine zN1 (fun hlen => ?_) | refine zN2 (fun hlen => ?_))
    exact ⟨(k + 1, _), ⟨hk', hput⟩, by simp only; omega, x_wkd 1 ⟨rfl, trivial⟩ rfl (by repeat (first | exact ag_refl | refine ag_upd rfl ?_ | refine ag_at rfl rfl ?_))⟩
  · have hk' : k = l.length := by have : ¬ k < l.length := by simpa using h
                                  omega
    subst hk'
    rw [List.take_length] at hs
    clear h
    repeat (first | refine gG ?_ | refine zN1 (fun hlen => ?_) | refine zN2 (fun hlen => ?_))
    refine zG ?_
    exact ⟨_, _, rfl, rfl, hs⟩
set_option maxRecDepth 100000 in
set_option maxHeartbeats 2000000 in
theorem makers_af (p : Pr) (hb : p.makers.length ≤ 1048576) : AF Try.prog 9 [p.t] (· = strRow p.makers) := by
  have hfm : p.makers = p.datas.flatMap fun d => d.makes.map Mk.name := rfl
  rw [hfm] at hb ⊢
  obtain ⟨pn, pv, us, das, trs, ims, fus, acs⟩ := p
  dsimp only at *
  clear hfm
  refine af_enter tok Try.func9 Try.ntmps9 Try.results9 rfl (by kernel_rfl) rfl rfl fun F hX => ?_
  repeat (first | refine gG ?_ | refine zN1 (fun hlen => ?_) | refine zN2 (fun hlen => ?_) | refine zAl (fun _ => ?_) | refine zBf ?_ | refine zAp (fun _ => ?_))
  refine x_own 3 9 1 rfl rfl rfl rfl rfl ?_
  refine x_loop [3, 5, 7, 11, 12, 13, 14, 15, 16, 17, 18, 19, 20, 21, 22, 23, 24, 25, 26, 27, 28] (fun y : Nat × Value => [(11, .c (.lit (.int .i64 (y.1 : Nat)))), (3, .own 0 y.2)]) (fun y => [.row y.2 9 1 ((das.take y.1).flatMap fun d => d.makes.map Mk.name).length (((das.take y.1).flatMap fun d => d.makes.map Mk.name).flatMap strTs)]) (fun y => y.1 ≤ das.length) (fun y => das.length - y.1) (0, .slice none 0 0) (Nat.zero_le _) ⟨rfl, rfl, trivial⟩ rfl ?_
  rintro ⟨k, v⟩ hk
  dsimp only at hk ⊢
  repeat (first | refine gG ?_ | refine zN1 (fun hlen => ?_) | refine zN2 (fun hlen => ?_) | refine zAl (fun _ => ?_) | refine zBx (fun _ => ?_) | refine zAp (fun _ => ?_))
  refine x_cond rfl (fun h => ?_) (fun h => ?_)
  · have hk' : k < das.length := by simpa using h
    obtain ⟨d, hd⟩ := nth hk'
    have hst := pre_step (fun d : Da => d.makes.map Mk.name) hd
    have hle := pre_le (fun d : Da => d.makes.map Mk.name) das (k + 1)
    have hat := Da.at hd
    rw [hst] at hle
    rw [List.length_append] at hle
    try dsimp only at hst hle
    generalize (das.take k).flatMap (fun d : Da => d.makes.map Mk.name) = A at *
    clear h hd
    obtain ⟨dn, dps, dms⟩ := d
    dsimp only at hst hle
    repeat (first | refine gG ?_ | refine zN1 (fun hlen => ?_) | refine zN2 (fun hlen => ?_) | refine zAl (fun _ => ?_) | refine zBx (fun _ => ?_) | refine zAp (fun _ => ?_))
    refine zIx (k) (hk') ?_
    repeat (first | refine gG ?_ | refine zN1 (fun hlen => ?_) | refine zN2 (fun hlen => ?_) | refine zAl (fun _ => ?_) | refine zBx (fun _ => ?_) | refine zAp (fun _ => ?_))
    refine zEl (hat) (Da.ts_len _) ?_
    repeat (first | refine gG ?_ | refine zN1 (fun hlen => ?_) | refine zN2 (fun hlen => ?_) | refine zAl (fun _ => ?_) | refine zBx (fun _ => ?_) | refine zAp (fun _ => ?_))
    rename_i b5
    refine x_loop [3, 7, 18, 19, 20, 21, 22, 23, 24, 25, 26, 27] (fun y : Nat × Value => [(18, .c (.lit (.int .i64 (y.1 : Nat)))), (3, .own 0 y.2)]) (fun y => [.row y.2 9 1 (A ++ (dms.map Mk.name).take y.1).length ((A ++ (dms.map Mk.name).take y.1).flatMap strTs), .box b5 73 [.c (.lit (.string dn)), .c (strRow dps), .c (Mk.row dms)]]) (fun y => y.1 ≤ dms.length) (fun y => dms.length - y.1) (0, v) (Nat.zero_le _) ⟨rfl, rfl, trivial⟩ (by dsimp only; rw [List.take_zero, List.append_nil]) ?_
    rintro ⟨j, u⟩ hj
    dsimp only at hj ⊢
    repeat (first | refine gG ?_ | refine zN1 (fun hlen => ?_) | refine zN2 (fun hlen => ?_) | refine zAl (fun _ => ?_) | refine zBx (fun _ => ?_) | refine zAp (fun _ => ?_))
    refine x_cond rfl (fun h => ?_) (fun h => ?_)
    · have hj' : j < dms.length := by simpa using h
      obtain ⟨m, hm⟩ := nth hj'
      have hmn : (dms.map Mk.name)[j]? = some m.name := by rw [List.getElem?_map, hm]; rfl
      have htk := tk_step hmn
      have hml : (A ++ (dms.map Mk.name).take j).length ≤ 1048576 := by rw [List.length_append, List.length_take]; omega
      have hatm := Mk.at hm
      obtain ⟨mn, mas⟩ := m
      dsimp only at htk
      have happ : A ++ (dms.map Mk.name).take (j + 1) = (A ++ (dms.map Mk.name).take j) ++ [mn] := by rw [htk, List.append_assoc]
      generalize A ++ (dms.map Mk.name).take j = B at *
      clear h hm hmn htk hst
      repeat (first | refine gG ?_ | refine zN1 (fun hlen => ?_) | refine zN2 (fun hlen => ?_) | refine zAl (fun _ => ?_) | refine zBx (fun _ => ?_) | refine zAp (fun _ => ?_))
      refine zIx (j) (hj') ?_
      repeat (first | refine gG ?_ | refine zN1 (fun hlen => ?_) | refine zN2 (fun hlen => ?_) | refine zAl (fun _ => ?_) | refine zBx (fun _ => ?_) | refine zAp (fun _ => ?_))
      refine zEl (hatm) (Mk.ts_len _) ?_
      repeat (first | refine gG ?_ | refine zN1 (fun hlen => ?_) | refine zN2 (fun hlen => ?_) | refine zAl (fun _ => ?_) | refine zBx (fun _ => ?_) | refine zAp (fun _ => ?_))
      exact ⟨(j + 1, _), hj', by simp only; omega, x_wkd 2 ⟨rfl, rfl, trivial⟩ (by dsimp only; rw [happ]; simp only [List.length_append, List.flatMap_append]; rfl) (by repeat (first | exact ag_refl | refine ag_upd rfl ?_ | refine ag_at rfl rfl ?_))⟩
    · have hj' : j = dms.length := by have : ¬ j < dms.length := by simpa using h
                                      omega
      subst hj'
      clear h
      have htl : (dms.map Mk.name).take dms.length = dms.map Mk.name := by rw [← List.length_map (f := Mk.name), List.take_length]
      repeat (first | refine gG ?_ | refine zN1 (fun hlen => ?_) | refine zN2 (fun hlen => ?_) | refine zAl (fun _ => ?_) | refine zBx (fun _ => ?_) | refine zAp (fun _ => ?_))
      exact ⟨(k + 1, u), hk', by simp only; omega, x_wkd 1 ⟨rfl, rfl, trivial⟩ (by dsimp only; rw [hst, htl]; rfl) (by repeat (first | exact ag_refl | refine ag_upd rfl ?_ | refine ag_at rfl rfl ?_))⟩
  · have hk' : k = das.length := by have : ¬ k < das.length := by simpa using h
                                    omega
    subst hk'
    repeat (first | refine gG ?_ | refine zN1 (fun hlen => ?_) | refine zN2 (fun hlen => ?_) | refine zAl (fun _ => ?_) | refine zBx (fun _ => ?_) | refine zAp (fun _ => ?_))
    first | refine zR ?_ | refine zQ ?_
    rw [List.take_length]
    rfl
set_option maxRecDepth 100000 in
set_option maxHeartbeats 2000000 in
theorem calls_af (p : Pr) (hb : p.calls.length ≤ 1048576) : AF Try.prog 10 [p.t] (· = strRow p.calls) := by
  have hfm : p.calls = (p.traits.flatMap fun d => d.funcs.map Fu.name) ++ p.funcs.map Fu.name := rfl
  rw [hfm] at hb ⊢
  obtain ⟨pn, pv, us, das, trs, ims, fus, acs⟩ := p
  dsimp only at *
  clear hfm
  rw [List.length_append] at hb
  refine af_enter tok Try.func10 Try.ntmps10 Try.results10 rfl (by kernel_rfl) rfl rfl fun F hX => ?_
  repeat (first | refine gG ?_ | refine zN1 (fun hlen => ?_) | refine zN2 (fun hlen => ?_) | refine zAl (fun _ => ?_) | refine zBf ?_ | refine zAp (fun _ => ?_))
  refine x_own 3 9 1 rfl rfl rfl rfl rfl ?_
  refine x_loop [3, 5, 7, 13, 14, 15, 16, 17, 18, 19, 20, 21, 22, 23, 24, 25, 26, 27, 28, 29, 30] (fun y : Nat × Value => [(13, .c (.lit (.int .i64 (y.1 : Nat)))), (3, .own 0 y.2)]) (fun y => [.row y.2 9 1 ((trs.take y.1).flatMap fun d => d.funcs.map Fu.name).length (((trs.take y.1).flatMap fun d => d.funcs.map Fu.name).flatMap strTs)]) (fun y => y.1 ≤ trs.length) (fun y => trs.length - y.1) (0, .slice none 0 0) (Nat.zero_le _) ⟨rfl, rfl, trivial⟩ rfl ?_
  rintro ⟨k, v⟩ hk
  dsimp only at hk ⊢
  repeat (first | refine gG ?_ | refine zN1 (fun hlen => ?_) | refine zN2 (fun hlen => ?_) | refine zAl (fun _ => ?_) | refine zBx (fun _ => ?_) | refine zAp (fun _ => ?_))
  refine x_cond rfl (fun h => ?_) (fun h => ?_)
  · have hk' : k < trs.length := by simpa using h
    obtain ⟨d, hd⟩ := nth hk'
    have hst := pre_step (fun d : Tr => d.funcs.map Fu.name) hd
    have hle := pre_le (fun d : Tr => d.funcs.map Fu.name) trs (k + 1)
    have hat := Tr.at hd
    rw [hst] at hle
    rw [List.length_append] at hle
    try dsimp only at hst hle
    generalize (trs.take k).flatMap (fun d : Tr => d.funcs.map Fu.name) = A at *
    clear h hd
    obtain ⟨dn, dms⟩ := d
    dsimp only at hst hle
    repeat (first | refine gG ?_ | refine zN1 (fun hlen => ?_) | refine zN2 (fun hlen => ?_) | refine zAl (fun _ => ?_) | refine zBx (fun _ => ?_) | refine zAp (fun _ => ?_))
    refine zIx (k) (hk') ?_
    repeat (first | refine gG ?_ | refine zN1 (fun hlen => ?_) | refine zN2 (fun hlen => ?_) | refine zAl (fun _ => ?_) | refine zBx (fun _ => ?_) | refine zAp (fun _ => ?_))
    refine zEl (hat) (Tr.ts_len _) ?_
    repeat (first | refine gG ?_ | refine zN1 (fun hlen => ?_) | refine zN2 (fun hlen => ?_) | refine zAl (fun _ => ?_) | refine zBx (fun _ => ?_) | refine zAp (fun _ => ?_))
    rename_i b5
    refine x_loop [3, 7, 20, 21, 22, 23, 24, 25, 26, 27, 28, 29] (fun y : Nat × Value => [(20, .c (.lit (.int .i64 (y.1 : Nat)))), (3, .own 0 y.2)]) (fun y => [.row y.2 9 1 (A ++ (dms.map Fu.name).take y.1).length ((A ++ (dms.map Fu.name).take y.1).flatMap strTs), .box b5 55 [.c (.lit (.string dn)), .c (Fu.row dms)]]) (fun y => y.1 ≤ dms.length) (fun y => dms.length - y.1) (0, v) (Nat.zero_le _) ⟨rfl, rfl, trivial⟩ (by dsimp only; rw [List.take_zero, List.append_nil]) ?_
    rintro ⟨j, u⟩ hj
    dsimp only at hj ⊢
    repeat (first | refine gG ?_ | refine zN1 (fun hlen => ?_) | refine zN2 (fun hlen => ?_) | refine zAl (fun _ => ?_) | refine zBx (fun _ => ?_) | refine zAp (fun _ => ?_))
    refine x_cond rfl (fun h => ?_) (fun h => ?_)
    · have hj' : j < dms.length := by simpa using h
      obtain ⟨m, hm⟩ := nth hj'
      have hmn : (dms.map Fu.name)[j]? = some m.name := by rw [List.getElem?_map, hm]; rfl
      have htk := tk_step hmn
      have hml : (A ++ (dms.map Fu.name).take j).length ≤ 1048576 := by rw [List.length_append, List.length_take]; omega
      have hatm := Fu.at hm
      obtain ⟨mn, mps, mns, mts, ⟨ok, on, ol⟩, ⟨ek, en, et, ens, eys, el, ers, ep⟩⟩ := m
      dsimp only at htk
      have happ : A ++ (dms.map Fu.name).take (j + 1) = (A ++ (dms.map Fu.name).take j) ++ [mn] := by rw [htk, List.append_assoc]
      generalize A ++ (dms.map Fu.name).take j = B at *
      clear h hm hmn htk hst
      repeat (first | refine gG ?_ | refine zN1 (fun hlen => ?_) | refine zN2 (fun hlen => ?_) | refine zAl (fun _ => ?_) | refine zBx (fun _ => ?_) | refine zAp (fun _ => ?_))
      refine zIx (j) (hj') ?_
      repeat (first | refine gG ?_ | refine zN1 (fun hlen => ?_) | refine zN2 (fun hlen => ?_) | refine zAl (fun _ => ?_) | refine zBx (fun _ => ?_) | refine zAp (fun _ => ?_))
      refine zEl (hatm) (Fu.ts_len _) ?_
      repeat (first | refine gG ?_ | refine zN1 (fun hlen => ?_) | refine zN2 (fun hlen => ?_) | refine zAl (fun _ => ?_) | refine zBx (fun _ => ?_) | refine zAp (fun _ => ?_))
      exact ⟨(j + 1, _), hj', by simp only; omega, x_wkd 2 ⟨rfl, rfl, trivial⟩ (by dsimp only; rw [happ]; simp only [List.length_append, List.flatMap_append]; rfl) (by repeat (first | exact ag_refl | refine ag_upd rfl ?_ | refine ag_at rfl rfl ?_))⟩
    · have hj' : j = dms.length := by have : ¬ j < dms.length := by simpa using h
                                      omega
      subst hj'
      clear h
      have htl : (dms.map Fu.name).take dms.length = dms.map Fu.name := by rw [← List.length_map (f := Fu.name), List.take_length]
      repeat (first | refine gG ?_ | refine zN1 (fun hlen => ?_) | refine zN2 (fun hlen => ?_) | refine zAl (fun _ => ?_) | refine zBx (fun _ => ?_) | refine zAp (fun _ => ?_))
      exact ⟨(k + 1, u), hk', by simp only; omega, x_wkd 1 ⟨rfl, rfl, trivial⟩ (by dsimp only; rw [hst, htl]; rfl) (by repeat (first | exact ag_refl | refine ag_upd rfl ?_ | refine ag_at rfl rfl ?_))⟩
  have hk' : k = trs.length := by have : ¬ k < trs.length := by simpa using h
                                  omega
  subst hk'
  clear h hk
  rw [List.take_length]
  generalize trs.flatMap (fun d : Tr => d.funcs.map Fu.name) = A at *
  repeat (first | refine gG ?_ | refine zN1 (fun hlen => ?_) | refine zN2 (fun hlen => ?_) | refine zAl (fun _ => ?_) | refine zBx (fun _ => ?_) | refine zAp (fun _ => ?_))
  refine x_loop [3, 9, 34, 35, 36, 37, 38, 39, 40, 41, 42, 43] (fun y : Nat × Value => [(34, .c (.lit (.int .i64 (y.1 : Nat)))), (3, .own 0 y.2)]) (fun y => [.row y.2 9 1 (A ++ (fus.map Fu.name).take y.1).length ((A ++ (fus.map Fu.name).take y.1).flatMap strTs)]) (fun y => y.1 ≤ fus.length) (fun y => fus.length - y.1) (0, v) (Nat.zero_le _) ⟨rfl, rfl, trivial⟩ (by dsimp only; rw [List.take_zero, List.append_nil]) ?_
  rintro ⟨j, u⟩ hj
  dsimp only at hj ⊢
  repeat (first | refine gG ?_ | refine zN1 (fun hlen => ?_) | refine zN2 (fun hlen => ?_) | refine zAl (fun _ => ?_) | refine zBx (fun _ => ?_) | refine zAp (fun _ => ?_))
  refine x_cond rfl (fun h => ?_) (fun h => ?_)
  · have hj' : j < fus.length := by simpa using h
    obtain ⟨m, hm⟩ := nth hj'
    have hmn : (fus.map Fu.name)[j]? = some m.name := by rw [List.getElem?_map, hm]; rfl
    have htk := tk_step hmn
    have hml : (A ++ (fus.map Fu.name).take j).length ≤ 1048576 := by rw [List.length_map] at hb; rw [List.length_append, List.length_take]; omega
    have hatm := Fu.at hm
    obtain ⟨mn, mps, mns, mts, ⟨ok, on, ol⟩, ⟨ek, en, et, ens, eys, el, ers, ep⟩⟩ := m
    dsimp only at htk
    have happ : A ++ (fus.map Fu.name).take (j + 1) = (A ++ (fus.map Fu.name).take j) ++ [mn] := by rw [htk, List.append_assoc]
    generalize A ++ (fus.map Fu.name).take j = B at *
    clear h hm hmn htk
    repeat (first | refine gG ?_ | refine zN1 (fun hlen => ?_) | refine zN2 (fun hlen => ?_) | refine zAl (fun _ => ?_) | refine zBx (fun _ => ?_) | refine zAp (fun _ => ?_))
    refine zIx (j) (hj') ?_
    repeat (first | refine gG ?_ | refine zN1 (fun hlen => ?_) | refine zN2 (fun hlen => ?_) | refine zAl (fun _ => ?_) | refine zBx (fun _ => ?_) | refine zAp (fun _ => ?_))
    refine zEl (hatm) (Fu.ts_len _) ?_
    repeat (first | refine gG ?_ | refine zN1 (fun hlen => ?_) | refine zN2 (fun hlen => ?_) | refine zAl (fun _ => ?_) | refine zBx (fun _ => ?_) | refine zAp (fun _ => ?_))
    exact ⟨(j + 1, _), hj', by simp only; omega, x_wkd 1 ⟨rfl, rfl, trivial⟩ (by dsimp only; rw [happ]; simp only [List.length_append, List.flatMap_append]; rfl) (by repeat (first | exact ag_refl | refine ag_upd rfl ?_ | refine ag_at rfl rfl ?_))⟩
  · have hj' : j = fus.length := by have : ¬ j < fus.length := by simpa using h
                                    omega
    subst hj'
    have htl : (fus.map Fu.name).take fus.length = fus.map Fu.name := by rw [← List.length_map (f := Fu.name), List.take_length]
    rw [htl]
    clear h
    repeat (first | refine gG ?_ | refine zN1 (fun hlen => ?_) | refine zN2 (fun hlen => ?_) | refine zAl (fun _ => ?_) | refine zBx (fun _ => ?_) | refine zAp (fun _ => ?_))
    first | refine zR ?_ | refine zQ ?_
    rfl
set_option maxRecDepth 100000 in
set_option maxHeartbeats 2000000 in
theorem acts_af (p : Pr) (hb : p.acts.length ≤ 1048576) : AF Try.prog 11 [p.t] (· = strRow p.acts) := by
  have hfm : p.acts = p.actors.map Ac.name := rfl
  rw [hfm] at hb ⊢
  obtain ⟨pn, pv, us, das, trs, ims, fus, acs⟩ := p
  dsimp only at *
  clear hfm
  rw [List.length_map] at hb
  refine af_enter tok Try.func11 Try.ntmps11 Try.results11 rfl (by kernel_rfl) rfl rfl fun F hX => ?_
  repeat (first | refine gG ?_ | refine zN1 (fun hlen => ?_) | refine zN2 (fun hlen => ?_) | refine zAl (fun _ => ?_) | refine zBf ?_ | refine zAp (fun _ => ?_))
  refine x_own 3 9 1 rfl rfl rfl rfl rfl ?_
  refine x_loop [3, 5, 9, 10, 11, 12, 13, 14, 15, 16, 17, 18] (fun y : Nat × Value => [(9, .c (.lit (.int .i64 (y.1 : Nat)))), (3, .own 0 y.2)]) (fun y => [.row y.2 9 1 ((acs.map Ac.name).take y.1).length (((acs.map Ac.name).take y.1).flatMap strTs)]) (fun y => y.1 ≤ acs.length) (fun y => acs.length - y.1) (0, .slice none 0 0) (Nat.zero_le _) ⟨rfl, rfl, trivial⟩ rfl ?_
  rintro ⟨j, u⟩ hj
  dsimp only at hj ⊢
  repeat (first | refine gG ?_ | refine zN1 (fun hlen => ?_) | refine zN2 (fun hlen => ?_) | refine zAl (fun _ => ?_) | refine zBx (fun _ => ?_) | refine zAp (fun _ => ?_))
  refine x_cond rfl (fun h => ?_) (fun h => ?_)
  · have hj' : j < acs.length := by simpa using h
    obtain ⟨m, hm⟩ := nth hj'
    have hmn : (acs.map Ac.name)[j]? = some m.name := by rw [List.getElem?_map, hm]; rfl
    have htk := tk_step hmn
    have hml : ((acs.map Ac.name).take j).length ≤ 1048576 := by rw [List.length_take]; omega
    have hatm := Ac.at hm
    obtain ⟨mn, mns, mts, ⟨ok, on, ol⟩, ⟨ek, en, et, ens, eys, el, ers, ep⟩⟩ := m
    dsimp only at htk
    generalize (acs.map Ac.name).take j = B at *
    clear h hm hmn
    repeat (first | refine gG ?_ | refine zN1 (fun hlen => ?_) | refine zN2 (fun hlen => ?_) | refine zAl (fun _ => ?_) | refine zBx (fun _ => ?_) | refine zAp (fun _ => ?_))
    refine zIx (j) (hj') ?_
    repeat (first | refine gG ?_ | refine zN1 (fun hlen => ?_) | refine zN2 (fun hlen => ?_) | refine zAl (fun _ => ?_) | refine zBx (fun _ => ?_) | refine zAp (fun _ => ?_))
    refine zEl (hatm) (Ac.ts_len _) ?_
    repeat (first | refine gG ?_ | refine zN1 (fun hlen => ?_) | refine zN2 (fun hlen => ?_) | refine zAl (fun _ => ?_) | refine zBx (fun _ => ?_) | refine zAp (fun _ => ?_))
    exact ⟨(j + 1, _), hj', by simp only; omega, x_wkd 1 ⟨rfl, rfl, trivial⟩ (by dsimp only; rw [htk]; simp only [List.length_append, List.flatMap_append]; rfl) (by repeat (first | exact ag_refl | refine ag_upd rfl ?_ | refine ag_at rfl rfl ?_))⟩
  · have hj' : j = acs.length := by have : ¬ j < acs.length := by simpa using h
                                    omega
    subst hj'
    have htl : (acs.map Ac.name).take acs.length = acs.map Ac.name := by rw [← List.length_map (f := Ac.name), List.take_length]
    rw [htl]
    clear h
    repeat (first | refine gG ?_ | refine zN1 (fun hlen => ?_) | refine zN2 (fun hlen => ?_) | refine zAl (fun _ => ?_) | refine zBx (fun _ => ?_) | refine zAp (fun _ => ?_))
    first | refine zR ?_ | refine zQ ?_
    rfl
set_option maxRecDepth 100000 in
set_option maxHeartbeats 2000000 in
theorem refMakers_af (p : Pr) (hb : p.makers.length ≤ 1048576) : AF Try.prog 23 [p.t] (· = strRow p.makers) := by
  have hfm : p.makers = p.datas.flatMap fun d => d.makes.map Mk.name := rfl
  rw [hfm] at hb ⊢
  obtain ⟨pn, pv, us, das, trs, ims, fus, acs⟩ := p
  dsimp only at *
  clear hfm
  refine af_enter tok Try.func23 Try.ntmps23 Try.results23 rfl (by kernel_rfl) rfl rfl fun F hX => ?_
  repeat (first | refine gG ?_ | refine zN1 (fun hlen => ?_) | refine zN2 (fun hlen => ?_) | refine zAl (fun _ => ?_) | refine zBf ?_ | refine zAp (fun _ => ?_))
  refine x_own 3 9 1 rfl rfl rfl rfl rfl ?_
  refine x_loop [3, 5, 7, 11, 12, 13, 14, 15, 16, 17, 18, 19, 20, 21, 22, 23, 24, 25, 26, 27, 28] (fun y : Nat × Value => [(11, .c (.lit (.int .i64 (y.1 : Nat)))), (3, .own 0 y.2)]) (fun y => [.row y.2 9 1 ((das.take y.1).flatMap fun d => d.makes.map Mk.name).length (((das.take y.1).flatMap fun d => d.makes.map Mk.name).flatMap strTs)]) (fun y => y.1 ≤ das.length) (fun y => das.length - y.1) (0, .slice none 0 0) (Nat.zero_le _) ⟨rfl, rfl, trivial⟩ rfl ?_
  rintro ⟨k, v⟩ hk
  dsimp only at hk ⊢
  repeat (first | refine gG ?_ | refine zN1 (fun hlen => ?_) | refine zN2 (fun hlen => ?_) | refine zAl (fun _ => ?_) | refine zBx (fun _ => ?_) | refine zAp (fun _ => ?_))
  refine x_cond rfl (fun h => ?_) (fun h => ?_)
  · have hk' : k < das.length := by simpa using h
    obtain ⟨d, hd⟩ := nth hk'
    have hst := pre_step (fun d : Da => d.makes.map Mk.name) hd
    have hle := pre_le (fun d : Da => d.makes.map Mk.name) das (k + 1)
    have hat := Da.at hd
    rw [hst] at hle
    rw [List.length_append] at hle
    try dsimp only at hst hle
    generalize (das.take k).flatMap (fun d : Da => d.makes.map Mk.name) = A at *
    clear h hd
    obtain ⟨dn, dps, dms⟩ := d
    dsimp only at hst hle
    repeat (first | refine gG ?_ | refine zN1 (fun hlen => ?_) | refine zN2 (fun hlen => ?_) | refine zAl (fun _ => ?_) | refine zBx (fun _ => ?_) | refine zAp (fun _ => ?_))
    refine zIx (k) (hk') ?_
    repeat (first | refine gG ?_ | refine zN1 (fun hlen => ?_) | refine zN2 (fun hlen => ?_) | refine zAl (fun _ => ?_) | refine zBx (fun _ => ?_) | refine zAp (fun _ => ?_))
    refine zEl (hat) (Da.ts_len _) ?_
    repeat (first | refine gG ?_ | refine zN1 (fun hlen => ?_) | refine zN2 (fun hlen => ?_) | refine zAl (fun _ => ?_) | refine zBx (fun _ => ?_) | refine zAp (fun _ => ?_))
    rename_i b5
    refine x_loop [3, 7, 18, 19, 20, 21, 22, 23, 24, 25, 26, 27] (fun y : Nat × Value => [(18, .c (.lit (.int .i64 (y.1 : Nat)))), (3, .own 0 y.2)]) (fun y => [.row y.2 9 1 (A ++ (dms.map Mk.name).take y.1).length ((A ++ (dms.map Mk.name).take y.1).flatMap strTs), .box b5 73 [.c (.lit (.string dn)), .c (strRow dps), .c (Mk.row dms)]]) (fun y => y.1 ≤ dms.length) (fun y => dms.length - y.1) (0, v) (Nat.zero_le _) ⟨rfl, rfl, trivial⟩ (by dsimp only; rw [List.take_zero, List.append_nil]) ?_
    rintro ⟨j, u⟩ hj
    dsimp only at hj ⊢
    repeat (first | refine gG ?_ | refine zN1 (fun hlen => ?_) | refine zN2 (fun hlen => ?_) | refine zAl (fun _ => ?_) | refine zBx (fun _ => ?_) | refine zAp (fun _ => ?_))
    refine x_cond rfl (fun h => ?_) (fun h => ?_)
    · have hj' : j < dms.length := by simpa using h
      obtain ⟨m, hm⟩ := nth hj'
      have hmn : (dms.map Mk.name)[j]? = some m.name := by rw [List.getElem?_map, hm]; rfl
      have htk := tk_step hmn
      have hml : (A ++ (dms.map Mk.name).take j).length ≤ 1048576 := by rw [List.length_append, List.length_take]; omega
      have hatm := Mk.at hm
      obtain ⟨mn, mas⟩ := m
      dsimp only at htk
      have happ : A ++ (dms.map Mk.name).take (j + 1) = (A ++ (dms.map Mk.name).take j) ++ [mn] := by rw [htk, List.append_assoc]
      generalize A ++ (dms.map Mk.name).take j = B at *
      clear h hm hmn htk hst
      repeat (first | refine gG ?_ | refine zN1 (fun hlen => ?_) | refine zN2 (fun hlen => ?_) | refine zAl (fun _ => ?_) | refine zBx (fun _ => ?_) | refine zAp (fun _ => ?_))
      refine zIx (j) (hj') ?_
      repeat (first | refine gG ?_ | refine zN1 (fun hlen => ?_) | refine zN2 (fun hlen => ?_) | refine zAl (fun _ => ?_) | refine zBx (fun _ => ?_) | refine zAp (fun _ => ?_))
      refine zEl (hatm) (Mk.ts_len _) ?_
      repeat (first | refine gG ?_ | refine zN1 (fun hlen => ?_) | refine zN2 (fun hlen => ?_) | refine zAl (fun _ => ?_) | refine zBx (fun _ => ?_) | refine zAp (fun _ => ?_))
      exact ⟨(j + 1, _), hj', by simp only; omega, x_wkd 2 ⟨rfl, rfl, trivial⟩ (by dsimp only; rw [happ]; simp only [List.length_append, List.flatMap_append]; rfl) (by repeat (first | exact ag_refl | refine ag_upd rfl ?_ | refine ag_at rfl rfl ?_))⟩
    · have hj' : j = dms.length := by have : ¬ j < dms.length := by simpa using h
                                      omega
      subst hj'
      clear h
      have htl : (dms.map Mk.name).take dms.length = dms.map Mk.name := by rw [← List.length_map (f := Mk.name), List.take_length]
      repeat (first | refine gG ?_ | refine zN1 (fun hlen => ?_) | refine zN2 (fun hlen => ?_) | refine zAl (fun _ => ?_) | refine zBx (fun _ => ?_) | refine zAp (fun _ => ?_))
      exact ⟨(k + 1, u), hk', by simp only; omega, x_wkd 1 ⟨rfl, rfl, trivial⟩ (by dsimp only; rw [hst, htl]; rfl) (by repeat (first | exact ag_refl | refine ag_upd rfl ?_ | refine ag_at rfl rfl ?_))⟩
  · have hk' : k = das.length := by have : ¬ k < das.length := by simpa using h
                                    omega
    subst hk'
    repeat (first | refine gG ?_ | refine zN1 (fun hlen => ?_) | refine zN2 (fun hlen => ?_) | refine zAl (fun _ => ?_) | refine zBx (fun _ => ?_) | refine zAp (fun _ => ?_))
    first | refine zR ?_ | refine zQ ?_
    rw [List.take_length]
    rfl
set_option maxRecDepth 100000 in
set_option maxHeartbeats 2000000 in
theorem refCalls_af (p : Pr) (hb : p.calls.length ≤ 1048576) : AF Try.prog 24 [p.t] (· = strRow p.calls) := by
  have hfm : p.calls = (p.traits.flatMap fun d => d.funcs.map Fu.name) ++ p.funcs.map Fu.name := rfl
  rw [hfm] at hb ⊢
  obtain ⟨pn, pv, us, das, trs, ims, fus, acs⟩ := p
  dsimp only at *
  clear hfm
  rw [List.length_append] at hb
  refine af_enter tok Try.func24 Try.ntmps24 Try.results24 rfl (by kernel_rfl) rfl rfl fun F hX => ?_
  repeat (first | refine gG ?_ | refine zN1 (fun hlen => ?_) | refine zN2 (fun hlen => ?_) | refine zAl (fun _ => ?_) | refine zBf ?_ | refine zAp (fun _ => ?_))
  refine x_own 3 9 1 rfl rfl rfl rfl rfl ?_
  refine x_loop [3, 5, 7, 13, 14, 15, 16, 17, 18, 19, 20, 21, 22, 23, 24, 25, 26, 27, 28, 29, 30] (fun y : Nat × Value => [(13, .c (.lit (.int .i64 (y.1 : Nat)))), (3, .own 0 y.2)]) (fun y => [.row y.2 9 1 ((trs.take y.1).flatMap fun d => d.funcs.map Fu.name).length (((trs.take y.1).flatMap fun d => d.funcs.map Fu.name).flatMap strTs)]) (fun y => y.1 ≤ trs.length) (fun y => trs.length - y.1) (0, .slice none 0 0) (Nat.zero_le _) ⟨rfl, rfl, trivial⟩ rfl ?_
  rintro ⟨k, v⟩ hk
  dsimp only at hk ⊢
  repeat (first | refine gG ?_ | refine zN1 (fun hlen => ?_) | refine zN2 (fun hlen => ?_) | refine zAl (fun _ => ?_) | refine zBx (fun _ => ?_) | refine zAp (fun _ => ?_))
  refine x_cond rfl (fun h => ?_) (fun h => ?_)
  · have hk' : k < trs.length := by simpa using h
    obtain ⟨d, hd⟩ := nth hk'
    have hst := pre_step (fun d : Tr => d.funcs.map Fu.name) hd
    have hle := pre_le (fun d : Tr => d.funcs.map Fu.name) trs (k + 1)
    have hat := Tr.at hd
    rw [hst] at hle
    rw [List.length_append] at hle
    try dsimp only at hst hle
    generalize (trs.take k).flatMap (fun d : Tr => d.funcs.map Fu.name) = A at *
    clear h hd
    obtain ⟨dn, dms⟩ := d
    dsimp only at hst hle
    repeat (first | refine gG ?_ | refine zN1 (fun hlen => ?_) | refine zN2 (fun hlen => ?_) | refine zAl (fun _ => ?_) | refine zBx (fun _ => ?_) | refine zAp (fun _ => ?_))
    refine zIx (k) (hk') ?_
    repeat (first | refine gG ?_ | refine zN1 (fun hlen => ?_) | refine zN2 (fun hlen => ?_) | refine zAl (fun _ => ?_) | refine zBx (fun _ => ?_) | refine zAp (fun _ => ?_))
    refine zEl (hat) (Tr.ts_len _) ?_
    repeat (first | refine gG ?_ | refine zN1 (fun hlen => ?_) | refine zN2 (fun hlen => ?_) | refine zAl (fun _ => ?_) | refine zBx (fun _ => ?_) | refine zAp (fun _ => ?_))
    rename_i b5
    refine x_loop [3, 7, 20, 21, 22, 23, 24, 25, 26, 27, 28, 29] (fun y : Nat × Value => [(20, .c (.lit (.int .i64 (y.1 : Nat)))), (3, .own 0 y.2)]) (fun y => [.row y.2 9 1 (A ++ (dms.map Fu.name).take y.1).length ((A ++ (dms.map Fu.name).take y.1).flatMap strTs), .box b5 55 [.c (.lit (.string dn)), .c (Fu.row dms)]]) (fun y => y.1 ≤ dms.length) (fun y => dms.length - y.1) (0, v) (Nat.zero_le _) ⟨rfl, rfl, trivial⟩ (by dsimp only; rw [List.take_zero, List.append_nil]) ?_
    rintro ⟨j, u⟩ hj
    dsimp only at hj ⊢
    repeat (first | refine gG ?_ | refine zN1 (fun hlen => ?_) | refine zN2 (fun hlen => ?_) | refine zAl (fun _ => ?_) | refine zBx (fun _ => ?_) | refine zAp (fun _ => ?_))
    refine x_cond rfl (fun h => ?_) (fun h => ?_)
    · have hj' : j < dms.length := by simpa using h
      obtain ⟨m, hm⟩ := nth hj'
      have hmn : (dms.map Fu.name)[j]? = some m.name := by rw [List.getElem?_map, hm]; rfl
      have htk := tk_step hmn
      have hml : (A ++ (dms.map Fu.name).take j).length ≤ 1048576 := by rw [List.length_append, List.length_take]; omega
      have hatm := Fu.at hm
      obtain ⟨mn, mps, mns, mts, ⟨ok, on, ol⟩, ⟨ek, en, et, ens, eys, el, ers, ep⟩⟩ := m
      dsimp only at htk
      have happ : A ++ (dms.map Fu.name).take (j + 1) = (A ++ (dms.map Fu.name).take j) ++ [mn] := by rw [htk, List.append_assoc]
      generalize A ++ (dms.map Fu.name).take j = B at *
      clear h hm hmn htk hst
      repeat (first | refine gG ?_ | refine zN1 (fun hlen => ?_) | refine zN2 (fun hlen => ?_) | refine zAl (fun _ => ?_) | refine zBx (fun _ => ?_) | refine zAp (fun _ => ?_))
      refine zIx (j) (hj') ?_
      repeat (first | refine gG ?_ | refine zN1 (fun hlen => ?_) | refine zN2 (fun hlen => ?_) | refine zAl (fun _ => ?_) | refine zBx (fun _ => ?_) | refine zAp (fun _ => ?_))
      refine zEl (hatm) (Fu.ts_len _) ?_
      repeat (first | refine gG ?_ | refine zN1 (fun hlen => ?_) | refine zN2 (fun hlen => ?_) | refine zAl (fun _ => ?_) | refine zBx (fun _ => ?_) | refine zAp (fun _ => ?_))
      exact ⟨(j + 1, _), hj', by simp only; omega, x_wkd 2 ⟨rfl, rfl, trivial⟩ (by dsimp only; rw [happ]; simp only [List.length_append, List.flatMap_append]; rfl) (by repeat (first | exact ag_refl | refine ag_upd rfl ?_ | refine ag_at rfl rfl ?_))⟩
    · have hj' : j = dms.length := by have : ¬ j < dms.length := by simpa using h
                                      omega
      subst hj'
      clear h
      have htl : (dms.map Fu.name).take dms.length = dms.map Fu.name := by rw [← List.length_map (f := Fu.name), List.take_length]
      repeat (first | refine gG ?_ | refine zN1 (fun hlen => ?_) | refine zN2 (fun hlen => ?_) | refine zAl (fun _ => ?_) | refine zBx (fun _ => ?_) | refine zAp (fun _ => ?_))
      exact ⟨(k + 1, u), hk', by simp only; omega, x_wkd 1 ⟨rfl, rfl, trivial⟩ (by dsimp only; rw [hst, htl]; rfl) (by repeat (first | exact ag_refl | refine ag_upd rfl ?_ | refine ag_at rfl rfl ?_))⟩
  have hk' : k = trs.length := by have : ¬ k < trs.length := by simpa using h
                                  omega
  subst hk'
  clear h hk
  rw [List.take_length]
  generalize trs.flatMap (fun d : Tr => d.funcs.map Fu.name) = A at *
  repeat (first | refine gG ?_ | refine zN1 (fun hlen => ?_) | refine zN2 (fun hlen => ?_) | refine zAl (fun _ => ?_) | refine zBx (fun _ => ?_) | refine zAp (fun _ => ?_))
  refine x_loop [3, 9, 34, 35, 36, 37, 38, 39, 40, 41, 42, 43] (fun y : Nat × Value => [(34, .c (.lit (.int .i64 (y.1 : Nat)))), (3, .own 0 y.2)]) (fun y => [.row y.2 9 1 (A ++ (fus.map Fu.name).take y.1).length ((A ++ (fus.map Fu.name).take y.1).flatMap strTs)]) (fun y => y.1 ≤ fus.length) (fun y => fus.length - y.1) (0, v) (Nat.zero_le _) ⟨rfl, rfl, trivial⟩ (by dsimp only; rw [List.take_zero, List.append_nil]) ?_
  rintro ⟨j, u⟩ hj
  dsimp only at hj ⊢
  repeat (first | refine gG ?_ | refine zN1 (fun hlen => ?_) | refine zN2 (fun hlen => ?_) | refine zAl (fun _ => ?_) | refine zBx (fun _ => ?_) | refine zAp (fun _ => ?_))
  refine x_cond rfl (fun h => ?_) (fun h => ?_)
  · have hj' : j < fus.length := by simpa using h
    obtain ⟨m, hm⟩ := nth hj'
    have hmn : (fus.map Fu.name)[j]? = some m.name := by rw [List.getElem?_map, hm]; rfl
    have htk := tk_step hmn
    have hml : (A ++ (fus.map Fu.name).take j).length ≤ 1048576 := by rw [List.length_map] at hb; rw [List.length_append, List.length_take]; omega
    have hatm := Fu.at hm
    obtain ⟨mn, mps, mns, mts, ⟨ok, on, ol⟩, ⟨ek, en, et, ens, eys, el, ers, ep⟩⟩ := m
    dsimp only at htk
    have happ : A ++ (fus.map Fu.name).take (j + 1) = (A ++ (fus.map Fu.name).take j) ++ [mn] := by rw [htk, List.append_assoc]
    generalize A ++ (fus.map Fu.name).take j = B at *
    clear h hm hmn htk
    repeat (first | refine gG ?_ | refine zN1 (fun hlen => ?_) | refine zN2 (fun hlen => ?_) | refine zAl (fun _ => ?_) | refine zBx (fun _ => ?_) | refine zAp (fun _ => ?_))
    refine zIx (j) (hj') ?_
    repeat (first | refine gG ?_ | refine zN1 (fun hlen => ?_) | refine zN2 (fun hlen => ?_) | refine zAl (fun _ => ?_) | refine zBx (fun _ => ?_) | refine zAp (fun _ => ?_))
    refine zEl (hatm) (Fu.ts_len _) ?_
    repeat (first | refine gG ?_ | refine zN1 (fun hlen => ?_) | refine zN2 (fun hlen => ?_) | refine zAl (fun _ => ?_) | refine zBx (fun _ => ?_) | refine zAp (fun _ => ?_))
    exact ⟨(j + 1, _), hj', by simp only; omega, x_wkd 1 ⟨rfl, rfl, trivial⟩ (by dsimp only; rw [happ]; simp only [List.length_append, List.flatMap_append]; rfl) (by repeat (first | exact ag_refl | refine ag_upd rfl ?_ | refine ag_at rfl rfl ?_))⟩
  · have hj' : j = fus.length := by have : ¬ j < fus.length := by simpa using h
                                    omega
    subst hj'
    have htl : (fus.map Fu.name).take fus.length = fus.map Fu.name := by rw [← List.length_map (f := Fu.name), List.take_length]
    rw [htl]
    clear h
    repeat (first | refine gG ?_ | refine zN1 (fun hlen => ?_) | refine zN2 (fun hlen => ?_) | refine zAl (fun _ => ?_) | refine zBx (fun _ => ?_) | refine zAp (fun _ => ?_))
    first | refine zR ?_ | refine zQ ?_
    rfl
set_option maxRecDepth 100000 in
set_option maxHeartbeats 2000000 in
theorem refActs_af (p : Pr) (hb : p.acts.length ≤ 1048576) : AF Try.prog 25 [p.t] (· = strRow p.acts) := by
  have hfm : p.acts = p.actors.map Ac.name := rfl
  rw [hfm] at hb ⊢
  obtain ⟨pn, pv, us, das, trs, ims, fus, acs⟩ := p
  dsimp only at *
  clear hfm
  rw [List.length_map] at hb
  refine af_enter tok Try.func25 Try.ntmps25 Try.results25 rfl (by kernel_rfl) rfl rfl fun F hX => ?_
  repeat (first | refine gG ?_ | refine zN1 (fun hlen => ?_) | refine zN2 (fun hlen => ?_) | refine zAl (fun _ => ?_) | refine zBf ?_ | refine zAp (fun _ => ?_))
  refine x_own 3 9 1 rfl rfl rfl rfl rfl ?_
  refine x_loop [3, 5, 9, 10, 11, 12, 13, 14, 15, 16, 17, 18] (fun y : Nat × Value => [(9, .c (.lit (.int .i64 (y.1 : Nat)))), (3, .own 0 y.2)]) (fun y => [.row y.2 9 1 ((acs.map Ac.name).take y.1).length (((acs.map Ac.name).take y.1).flatMap strTs)]) (fun y => y.1 ≤ acs.length) (fun y => acs.length - y.1) (0, .slice none 0 0) (Nat.zero_le _) ⟨rfl, rfl, trivial⟩ rfl ?_
  rintro ⟨j, u⟩ hj
  dsimp only at hj ⊢
  repeat (first | refine gG ?_ | refine zN1 (fun hlen => ?_) | refine zN2 (fun hlen => ?_) | refine zAl (fun _ => ?_) | refine zBx (fun _ => ?_) | refine zAp (fun _ => ?_))
  refine x_cond rfl (fun h => ?_) (fun h => ?_)
  · have hj' : j < acs.length := by simpa using h
    obtain ⟨m, hm⟩ := nth hj'
    have hmn : (acs.map Ac.name)[j]? = some m.name := by rw [List.getElem?_map, hm]; rfl
    have htk := tk_step hmn
    have hml : ((acs.map Ac.name).take j).length ≤ 1048576 := by rw [List.length_take]; omega
    have hatm := Ac.at hm
    obtain ⟨mn, mns, mts, ⟨ok, on, ol⟩, ⟨ek, en, et, ens, eys, el, ers, ep⟩⟩ := m
    dsimp only at htk
    generalize (acs.map Ac.name).take j = B at *
    clear h hm hmn
    repeat (first | refine gG ?_ | refine zN1 (fun hlen => ?_) | refine zN2 (fun hlen => ?_) | refine zAl (fun _ => ?_) | refine zBx (fun _ => ?_) | refine zAp (fun _ => ?_))
    refine zIx (j) (hj') ?_
    repeat (first | refine gG ?_ | refine zN1 (fun hlen => ?_) | refine zN2 (fun hlen => ?_) | refine zAl (fun _ => ?_) | refine zBx (fun _ => ?_) | refine zAp (fun _ => ?_))
    refine zEl (hatm) (Ac.ts_len _) ?_
    repeat (first | refine gG ?_ | refine zN1 (fun hlen => ?_) | refine zN2 (fun hlen => ?_) | refine zAl (fun _ => ?_) | refine zBx (fun _ => ?_) | refine zAp (fun _ => ?_))
    exact ⟨(j + 1, _), hj', by simp only; omega, x_wkd 1 ⟨rfl, rfl, trivial⟩ (by dsimp only; rw [htk]; simp only [List.length_append, List.flatMap_append]; rfl) (by repeat (first | exact ag_refl | refine ag_upd rfl ?_ | refine ag_at rfl rfl ?_))⟩
  · have hj' : j = acs.length := by have : ¬ j < acs.length := by simpa using h
                                    omega
    subst hj'
    have htl : (acs.map Ac.name).take acs.length = acs.map Ac.name := by rw [← List.length_map (f := Ac.name), List.take_length]
    rw [htl]
    clear h
    repeat (first | refine gG ?_ | refine zN1 (fun hlen => ?_) | refine zN2 (fun hlen => ?_) | refine zAl (fun _ => ?_) | refine zBx (fun _ => ?_) | refine zAp (fun _ => ?_))
    first | refine zR ?_ | refine zQ ?_
    rfl
end Go.Proofs.Ytldhlbjengpdbaa
namespace Go.Proofs.Ytldhlbjengpdbaa
open Go.RowKit
@[reducible] def hdB (b1 b2 b3 b4 br : Nat) (M1 M2 M3 ms : List (ByteArray × T)) : List Blk := [.mp b1 (mkeys Value.string M1), .mp b2 (mkeys Value.string M2), .mp b3 (mkeys Value.string M3), .box br 90 [.own 0 (.map (some b1)), .own 1 (.map (some b2)), .own 2 (.map (some b3)), .own 4 (.map (some b4))], .mp b4 (mkeys Value.string ms)]
theorem any_drop {α : Type} {p : α → Bool} {l : List α} {k : Nat} {a : α} (h : l[k]? = some a) : (l.drop k).any p = (p a || (l.drop (k + 1)).any p) := by
  obtain ⟨h1, rfl⟩ := List.getElem?_eq_some_iff.1 h
  rw [List.drop_eq_getElem_cons h1, List.any_cons]
set_option maxRecDepth 100000 in
set_option maxHeartbeats 4000000 in
theorem foreign_ag (b1 b2 b3 b4 br : Nat) (M1 M2 M3 ms : List (ByteArray × T)) (mk : List ByteArray) (hM : SeenOk M1 mk) (v : V) : AG Try.prog 44 [.ptr 3 br 0, .c v.t] (hdB b1 b2 b3 b4 br M1 M2 M3 ms) (fun r hs => r = .c (.lit (.bool (v.frg mk))) ∧ hs = hdB b1 b2 b3 b4 br M1 M2 M3 ms) := by
  induction v using V.ind with
  | h k n t l ih =>
    have hlk := hM t
    have hfe := V.frg_eq mk (.mk k n t l)
    have hf1 : frg1 mk (.mk k n t l) = (decide (k = 6) && !hasS mk t) := rfl
    rw [hf1, V.frgs_any, show (V.mk k n t l).kids = l from rfl] at hfe
    rw [hfe]
    generalize hR : l.any (V.frg mk) = r
    clear hfe hf1 hM
    have hdraw : True := trivial
    refine ag_enter (5) tok Try.func44 Try.ntmps44 Try.results44 rfl (by kernel_rfl) rfl fun F => ?_
    cases d1 : decide (k = 6) && !hasS mk t
    rotate_left
    · have d6 : decide (k = 6) = true := by cases h : decide (k = 6) with | true => rfl | false => rw [h, Bool.false_and] at d1; cases d1
      have dh : hasS mk t = false := by rw [d6, Bool.true_and] at d1; cases h : hasS mk t with | false => rfl | true => rw [h] at d1; cases d1
      rw [dh] at hlk
      rw [Bool.true_or]
      clear d1 hR ih
      repeat (first | refine gG ?_ | refine zN1 (fun hlen => ?_) | refine zN2 (fun hlen => ?_) | refine zAl (fun _ => ?_) | refine zBf ?_)
      refine ac_draw [1, 1, 1, 1, 1, 1, 1, 1, 1, 1, 1, 1, 1] [0, 1, 2, 3, 4, 5, 6, 7, 8, 9, 10, 11, 12] (by kernel_rfl) (by kernel_rfl) ?_
      refine gW ?_
      try (first | (apply w_un; (focus exact rfl); (focus exact rfl); (focus exact rfl); (focus exact rfl)) | (apply w_no; (focus exact rfl); (focus exact rfl); (focus exact rfl); (focus exact rfl); focus (first | rfl | assumption | exact neg_t (by assumption) | exact neg_f (by assumption))) | (apply w_qg; (focus exact rfl); (focus exact rfl); (focus exact rfl); (focus exact rfl); (focus (first | rfl | assumption | exact neg_t (by assumption) | exact neg_f (by assumption))); (focus (intro _; (refine zLks 9 4 hlk ?_); exact det_refl))))
      try refine gW ?_
      refine w_nil ?_
      repeat (first | refine gG ?_ | refine zN1 (fun hlen => ?_) | refine zN2 (fun hlen => ?_) | refine zAl (fun _ => ?_) | refine zBx (fun _ => ?_))
      refine zG ?_
      exact ⟨rfl, rfl⟩
    rw [Bool.false_or]
    have hor : decide (k = 6) = false ∨ (decide (k = 6) = true ∧ hasS mk t = true) := by
      cases h : decide (k = 6) with
      | false => exact .inl rfl
      | true => rw [h, Bool.true_and] at d1; exact .inr ⟨rfl, by cases h2 : hasS mk t with | true => rfl | false => rw [h2] at d1; cases d1⟩
    clear d1
    rcases hor with d6 | ⟨d6, dh⟩
    all_goals
      try rw [dh] at hlk
      repeat (first | refine gG ?_ | refine zN1 (fun hlen => ?_) | refine zN2 (fun hlen => ?_) | refine zAl (fun _ => ?_) | refine zBf ?_)
      refine ac_draw [1, 1, 1, 1, 1, 1, 1, 1, 1, 1, 1, 1, 1] [0, 1, 2, 3, 4, 5, 6, 7, 8, 9, 10, 11, 12] (by kernel_rfl) (by kernel_rfl) ?_
      refine gW ?_
      try (first | (apply w_un; (focus exact rfl); (focus exact rfl); (focus exact rfl); (focus exact rfl)) | (apply w_no; (focus exact rfl); (focus exact rfl); (focus exact rfl); (focus exact rfl); focus (first | rfl | assumption | exact neg_t (by assumption) | exact neg_f (by assumption))) | (apply w_qg; (focus exact rfl); (focus exact rfl); (focus exact rfl); (focus exact rfl); (focus (first | rfl | assumption | exact neg_t (by assumption) | exact neg_f (by assumption))); (focus (intro _; (refine zLks 9 4 hlk ?_); exact det_refl))))
      try refine gW ?_
      refine w_nil ?_
      repeat (first | refine gG ?_ | refine zN1 (fun hlen => ?_) | refine zN2 (fun hlen => ?_) | refine zAl (fun _ => ?_) | refine zBx (fun _ => ?_))
      refine x_loop [4, 6, 23, 24, 25, 26, 27, 28, 29, 30] (fun j : Nat => [(23, .c (.lit (.int .i64 (j : Nat))))]) (fun _ => hdB b1 b2 b3 b4 br M1 M2 M3 ms) (fun j => j ≤ l.length ∧ (l.drop j).any (V.frg mk) = r) (fun j => l.length - j) 0 ⟨Nat.zero_le _, hR⟩ ⟨rfl, trivial⟩ rfl ?_
      clear hR
      rintro j ⟨hj, he⟩
      repeat (first | refine gG ?_ | refine zN1 (fun hlen => ?_) | refine zN2 (fun hlen => ?_) | refine zAl (fun _ => ?_) | refine zBx (fun _ => ?_))
      refine x_cond rfl (fun h => ?_) (fun h => ?_)
      · have hj' : j < l.length := by simpa using h
        obtain ⟨a, ha⟩ := nth hj'
        have hc := ih a (List.mem_of_getElem? ha)
        have hat := V.at ha
        rw [any_drop ha] at he
        clear h ha ih hlk
        generalize hfa : a.frg mk = fa at *
        clear hfa
        obtain ⟨ka, na, ta, la⟩ := a
        cases fa
        · rw [Bool.false_or] at he
          repeat (first | refine gG ?_ | refine zN1 (fun hlen => ?_) | refine zN2 (fun hlen => ?_) | refine zAl (fun _ => ?_) | refine zBx (fun _ => ?_))
          refine zIx (j) (hj') ?_
          repeat (first | refine gG ?_ | refine zN1 (fun hlen => ?_) | refine zN2 (fun hlen => ?_) | refine zAl (fun _ => ?_) | refine zBx (fun _ => ?_))
          refine zEl (hat) (V.ts_len _) ?_
          repeat (first | refine gG ?_ | refine zN1 (fun hlen => ?_) | refine zN2 (fun hlen => ?_) | refine zAl (fun _ => ?_) | refine zBx (fun _ => ?_))
          refine zCallR [0, 1, 2, 3, 4] hc (fun _ _ h => h) ?_
          repeat (first | refine gG ?_ | refine zN1 (fun hlen => ?_) | refine zN2 (fun hlen => ?_) | refine zAl (fun _ => ?_) | refine zBx (fun _ => ?_))
          exact ⟨j + 1, ⟨hj', he⟩, by omega, x_wkd 5 ⟨rfl, trivial⟩ rfl (by repeat (first | exact ag_refl | refine ag_upd rfl ?_ | refine ag_at rfl rfl ?_))⟩
        · rw [Bool.true_or] at he
          subst he
          repeat (first | refine gG ?_ | refine zN1 (fun hlen => ?_) | refine zN2 (fun hlen => ?_) | refine zAl (fun _ => ?_) | refine zBx (fun _ => ?_))
          refine zIx (j) (hj') ?_
          repeat (first | refine gG ?_ | refine zN1 (fun hlen => ?_) | refine zN2 (fun hlen => ?_) | refine zAl (fun _ => ?_) | refine zBx (fun _ => ?_))
          refine zEl (hat) (V.ts_len _) ?_
          repeat (first | refine gG ?_ | refine zN1 (fun hlen => ?_) | refine zN2 (fun hlen => ?_) | refine zAl (fun _ => ?_) | refine zBx (fun _ => ?_))
          refine zCallR [0, 1, 2, 3, 4] hc (fun _ _ h => h) ?_
          repeat (first | refine gG ?_ | refine zN1 (fun hlen => ?_) | refine zN2 (fun hlen => ?_) | refine zAl (fun _ => ?_) | refine zBx (fun _ => ?_))
          refine zG ?_
          exact ⟨rfl, rfl⟩
      · have hj' : j = l.length := by have : ¬ j < l.length := by simpa using h
                                      omega
        subst hj'
        rw [List.drop_length] at he
        subst he
        clear h ih
        repeat (first | refine gG ?_ | refine zN1 (fun hlen => ?_) | refine zN2 (fun hlen => ?_) | refine zAl (fun _ => ?_) | refine zBx (fun _ => ?_))
        refine zG ?_
        exact ⟨rfl, rfl⟩
end Go.Proofs.Ytldhlbjengpdbaa
