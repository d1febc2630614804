/-
  Texts of this proof, part 10: Tps Vph Open Law OpenT OpenY.
-/
import Derived.Test.YtmdmgpnaiknlaaaQShapeSame9
import Derived.Deep.Slices
import Derived.JoinedCond
import Derived.Lib.AppendStr
import Derived.Lib.AppendZerosOnto
import Derived.Lib.MinMax
import Derived.OpenShut
import Derived.ProofKit
import Derived.Test.YtmdmgpnaiknlaaaRows
namespace Go.Proofs.Ytmdmgpnaiknlaaa
open Go.RowKit
set_option maxRecDepth 100000 in
set_option maxHeartbeats 4000000 in
theorem funcsSmall_af (l : List Fu) (hv : Fu.sizes l ≤ 1048576) : AF Try.prog 20 [Fu.row l] Tell := by
  refine af_enter tok Try.func20 Try.ntmps20 Try.results20 rfl (by kernel_rfl) rfl rfl fun F hX => ?_
  repeat (first | refine gG ?_ | refine zN1 (fun hlen => ?_) | refine zN2 (fun hlen => ?_) | refine zAl (fun _ => ?_))
  refine x_loop [2, 4, 7, 8, 9, 10, 11, 12, 13, 14, 15, 16, 17, 18, 19, 20, 21, 22, 23, 24, 25, 26, 27, 28] (fun k : Nat => [(7, .c (.lit (.int .i64 k)))]) (fun _ => []) (fun k => k ≤ l.length) (fun k => l.length - k) 0 (Nat.zero_le _) ⟨rfl, trivial⟩ rfl fun k hk => ?_
  repeat (first | refine gG ?_ | refine zN1 (fun hlen => ?_) | refine zN2 (fun hlen => ?_) | refine zAl (fun _ => ?_))
  refine x_cond rfl (fun h => ?_) (fun h => ?_)
  · have hk' : k < l.length := by simpa using h
    obtain ⟨a, ha⟩ := nth hk'
    have hs := Fu.size_mem (List.mem_of_getElem? ha)
    simp only [Fu.size] at hs
    have h1 := typesSmall_af a.types (by omega)
    have h2 := typesSmall_af [a.out] (by simp only [Y.sizes]; omega)
    have h3 := exprSmall_af a.body (by omega)
    repeat (first | refine gG ?_ | refine zN1 (fun hlen => ?_) | refine zN2 (fun hlen => ?_) | refine zAl (fun _ => ?_))
    refine zIx (k) (hk') ?_
    repeat (first | refine gG ?_ | refine zN1 (fun hlen => ?_) | refine zN2 (fun hlen => ?_) | refine zAl (fun _ => ?_))
    refine zEl (Fu.at ha) (Fu.ts_len a) ?_
    obtain ⟨nm, ps, ns, ys, ⟨ka, ta, la⟩, ⟨kb, nb, tb, nsb, ysb, lb, rsb, pb⟩⟩ := a
    dsimp only at h1 h2 h3
    repeat (first | refine gG ?_ | refine zN1 (fun hlen => ?_) | refine zN2 (fun hlen => ?_) | refine zAl (fun _ => ?_))
    refine zCall (h1) ?_
    rintro _ ⟨b1, rfl⟩
    cases b1
    · repeat (first | refine gG ?_ | refine zN1 (fun hlen => ?_) | refine zN2 (fun hlen => ?_) | refine zAl (fun _ => ?_))
      first | refine zR ?_ | refine zQ ?_
      exact ⟨_, rfl⟩
    · repeat (first | refine gG ?_ | refine zN1 (fun hlen => ?_) | refine zN2 (fun hlen => ?_) | refine zAl (fun _ => ?_))
      refine zCall (h2) ?_
      rintro _ ⟨b2, rfl⟩
      cases b2
      · repeat (first | refine gG ?_ | refine zN1 (fun hlen => ?_) | refine zN2 (fun hlen => ?_) | refine zAl (fun _ => ?_))
        first | refine zR ?_ | refine zQ ?_
        exact ⟨_, rfl⟩
      · repeat (first | refine gG ?_ | refine zN1 (fun hlen => ?_) | refine zN2 (fun hlen => ?_) | refine zAl (fun _ => ?_))
        refine zCall (h3) ?_
        rintro _ ⟨b3, rfl⟩
        cases b3
        · repeat (first | refine gG ?_ | refine zN1 (fun hlen => ?_) | refine zN2 (fun hlen => ?_) | refine zAl (fun _ => ?_))
          first | refine zR ?_ | refine zQ ?_
          exact ⟨_, rfl⟩
        · repeat (first | refine gG ?_ | refine zN1 (fun hlen => ?_) | refine zN2 (fun hlen => ?_) | refine zAl (fun _ => ?_))
          exact ⟨k + 1, hk', by omega, x_wkd 0 ⟨rfl, trivial⟩ rfl (by repeat (first | exact ag_refl | refine ag_upd rfl ?_ | refine ag_at rfl rfl ?_))⟩
  · repeat (first | refine gG ?_ | refine zN1 (fun hlen => ?_) | refine zN2 (fun hlen => ?_) | refine zAl (fun _ => ?_))
    first | refine zR ?_ | refine zQ ?_
    exact ⟨_, rfl⟩
set_option maxRecDepth 100000 in
set_option maxHeartbeats 4000000 in
theorem programSmall_af (p : Pr) (hv : p.size ≤ 1048576) : AF Try.prog 6 [p.t] Tell := by
  obtain ⟨pn, pv, us, das, trs, ims, fus, acs⟩ := p
  simp only [Pr.size] at hv
  have hl1 := Da.len_sizes das
  have hl2 := Tr.len_sizes trs
  have hl3 := Im.len_sizes ims
  have hl4 := Fu.len_sizes fus
  have hl5 := Ac.len_sizes acs
  have hfs := funcsSmall_af fus (by omega)
  refine af_enter tok Try.func6 Try.ntmps6 Try.results6 rfl (by kernel_rfl) rfl rfl fun F hX => ?_
  repeat (first | refine gG ?_ | refine zN1 (fun hlen => ?_) | refine zN2 (fun hlen => ?_) | refine zAl (fun _ => ?_) | refine zBx (fun _ => ?_))
  rename_i b0 _
  refine lo_add rfl rfl (r := ((das.length + trs.length : Nat) : Int)) (by rw [IntWalk.i64_in _ (by omega)]; omega) ?_
  repeat (first | refine gG ?_ | refine zN1 (fun hlen => ?_) | refine zN2 (fun hlen => ?_) | refine zAl (fun _ => ?_) | refine zBx (fun _ => ?_))
  refine lo_add rfl rfl (r := ((das.length + trs.length + ims.length : Nat) : Int)) (by rw [IntWalk.i64_in _ (by omega)]; omega) ?_
  repeat (first | refine gG ?_ | refine zN1 (fun hlen => ?_) | refine zN2 (fun hlen => ?_) | refine zAl (fun _ => ?_) | refine zBx (fun _ => ?_))
  refine lo_add rfl rfl (r := ((das.length + trs.length + ims.length + fus.length : Nat) : Int)) (by rw [IntWalk.i64_in _ (by omega)]; omega) ?_
  repeat (first | refine gG ?_ | refine zN1 (fun hlen => ?_) | refine zN2 (fun hlen => ?_) | refine zAl (fun _ => ?_) | refine zBx (fun _ => ?_))
  refine lo_add rfl rfl (r := ((das.length + trs.length + ims.length + fus.length + acs.length : Nat) : Int)) (by rw [IntWalk.i64_in _ (by omega)]; omega) ?_
  cases d1 : decide ((200 : Int) < ((das.length + trs.length + ims.length + fus.length + acs.length : Nat) : Int))
  · repeat (first | refine gG ?_ | refine zN1 (fun hlen => ?_) | refine zN2 (fun hlen => ?_) | refine zAl (fun _ => ?_) | refine zBx (fun _ => ?_))
    refine zCall (hfs) ?_
    rintro _ ⟨b1, rfl⟩
    cases b1
    · repeat (first | refine gG ?_ | refine zN1 (fun hlen => ?_) | refine zN2 (fun hlen => ?_) | refine zAl (fun _ => ?_) | refine zBx (fun _ => ?_))
      first | refine zR ?_ | refine zQ ?_
      exact ⟨_, rfl⟩
    repeat (first | refine gG ?_ | refine zN1 (fun hlen => ?_) | refine zN2 (fun hlen => ?_) | refine zAl (fun _ => ?_) | refine zBx (fun _ => ?_))
    refine x_loop [2, 4, 6, 42, 43, 44, 45, 46, 47, 48, 49, 50, 51, 52, 53, 54, 55, 56, 57, 58] (fun k : Nat => [(42, .c (.lit (.int .i64 k)))]) (fun _ => [.box b0 29 [.c (.lit (.string pn)), .c (.lit (.int .i64 pv)), .c (Us.row us), .c (Da.row das), .c (Tr.row trs), .c (Im.row ims), .c (Fu.row fus), .c (Ac.row acs)]]) (fun k => k ≤ das.length) (fun k => das.length - k) 0 (Nat.zero_le _) ⟨rfl, trivial⟩ rfl fun k hk => ?_
    repeat (first | refine gG ?_ | refine zN1 (fun hlen => ?_) | refine zN2 (fun hlen => ?_) | refine zAl (fun _ => ?_) | refine zBx (fun _ => ?_))
    refine x_cond rfl (fun h => ?_) (fun h => ?_)
    · have hk' : k < das.length := by simpa using h
      obtain ⟨a, ha⟩ := nth hk'
      have hs := Da.size_mem (List.mem_of_getElem? ha)
      simp only [Da.size] at hs
      repeat (first | refine gG ?_ | refine zN1 (fun hlen => ?_) | refine zN2 (fun hlen => ?_) | refine zAl (fun _ => ?_) | refine zBx (fun _ => ?_))
      refine zIx (k) (hk') ?_
      repeat (first | refine gG ?_ | refine zN1 (fun hlen => ?_) | refine zN2 (fun hlen => ?_) | refine zAl (fun _ => ?_) | refine zBx (fun _ => ?_))
      refine zEl (Da.at ha) (Da.ts_len a) ?_
      obtain ⟨dn, dps, mks⟩ := a
      dsimp only at hs
      repeat (first | refine gG ?_ | refine zN1 (fun hlen => ?_) | refine zN2 (fun hlen => ?_) | refine zAl (fun _ => ?_) | refine zBx (fun _ => ?_))
      rename_i b1
      refine x_loop [2, 6, 49, 50, 51, 52, 53, 54, 55, 56, 57] (fun k : Nat => [(49, .c (.lit (.int .i64 k)))]) (fun _ => [.box b0 29 [.c (.lit (.string pn)), .c (.lit (.int .i64 pv)), .c (Us.row us), .c (Da.row das), .c (Tr.row trs), .c (Im.row ims), .c (Fu.row fus), .c (Ac.row acs)], .box b1 66 [.c (.lit (.string dn)), .c (strRow dps), .c (Mk.row mks)]]) (fun k => k ≤ mks.length) (fun k => mks.length - k) 0 (Nat.zero_le _) ⟨rfl, trivial⟩ rfl fun j hj => ?_
      repeat (first | refine gG ?_ | refine zN1 (fun hlen => ?_) | refine zN2 (fun hlen => ?_) | refine zAl (fun _ => ?_) | refine zBx (fun _ => ?_))
      refine x_cond rfl (fun h => ?_) (fun h => ?_)
      · have hj' : j < mks.length := by simpa using h
        obtain ⟨m, hm⟩ := nth hj'
        have hms := Mk.size_mem (List.mem_of_getElem? hm)
        simp only [Mk.size] at hms
        have h1 := typesSmall_af m.args (by omega)
        repeat (first | refine gG ?_ | refine zN1 (fun hlen => ?_) | refine zN2 (fun hlen => ?_) | refine zAl (fun _ => ?_) | refine zBx (fun _ => ?_))
        refine zIx (j) (hj') ?_
        repeat (first | refine gG ?_ | refine zN1 (fun hlen => ?_) | refine zN2 (fun hlen => ?_) | refine zAl (fun _ => ?_) | refine zBx (fun _ => ?_))
        refine zEl (Mk.at hm) (Mk.ts_len m) ?_
        repeat (first | refine gG ?_ | refine zN1 (fun hlen => ?_) | refine zN2 (fun hlen => ?_) | refine zAl (fun _ => ?_) | refine zBx (fun _ => ?_))
        refine zCall (h1) ?_
        rintro _ ⟨b2, rfl⟩
        cases b2
        · repeat (first | refine gG ?_ | refine zN1 (fun hlen => ?_) | refine zN2 (fun hlen => ?_) | refine zAl (fun _ => ?_) | refine zBx (fun _ => ?_))
          first | refine zR ?_ | refine zQ ?_
          exact ⟨_, rfl⟩
        · repeat (first | refine gG ?_ | refine zN1 (fun hlen => ?_) | refine zN2 (fun hlen => ?_) | refine zAl (fun _ => ?_) | refine zBx (fun _ => ?_))
          exact ⟨j + 1, hj', by omega, x_wkd 2 ⟨rfl, trivial⟩ rfl (by repeat (first | exact ag_refl | refine ag_upd rfl ?_ | refine ag_at rfl rfl ?_))⟩
      · repeat (first | refine gG ?_ | refine zN1 (fun hlen => ?_) | refine zN2 (fun hlen => ?_) | refine zAl (fun _ => ?_) | refine zBx (fun _ => ?_))
        exact ⟨k + 1, hk', by omega, x_wkd 1 ⟨rfl, trivial⟩ rfl (by repeat (first | exact ag_refl | refine ag_upd rfl ?_ | refine ag_at rfl rfl ?_))⟩
    · repeat (first | refine gG ?_ | refine zN1 (fun hlen => ?_) | refine zN2 (fun hlen => ?_) | refine zAl (fun _ => ?_) | refine zBx (fun _ => ?_))
      refine x_loop [2, 8, 62, 63, 64, 65, 66, 67, 68, 69, 70] (fun k : Nat => [(62, .c (.lit (.int .i64 k)))]) (fun _ => [.box b0 29 [.c (.lit (.string pn)), .c (.lit (.int .i64 pv)), .c (Us.row us), .c (Da.row das), .c (Tr.row trs), .c (Im.row ims), .c (Fu.row fus), .c (Ac.row acs)]]) (fun k => k ≤ trs.length) (fun k => trs.length - k) 0 (Nat.zero_le _) ⟨rfl, trivial⟩ rfl fun k hk => ?_
      repeat (first | refine gG ?_ | refine zN1 (fun hlen => ?_) | refine zN2 (fun hlen => ?_) | refine zAl (fun _ => ?_) | refine zBx (fun _ => ?_))
      refine x_cond rfl (fun h => ?_) (fun h => ?_)
      · have hk' : k < trs.length := by simpa using h
        obtain ⟨a, ha⟩ := nth hk'
        have hs := Tr.size_mem (List.mem_of_getElem? ha)
        simp only [Tr.size] at hs
        have h1 := funcsSmall_af a.funcs (by omega)
        repeat (first | refine gG ?_ | refine zN1 (fun hlen => ?_) | refine zN2 (fun hlen => ?_) | refine zAl (fun _ => ?_) | refine zBx (fun _ => ?_))
        refine zIx (k) (hk') ?_
        repeat (first | refine gG ?_ | refine zN1 (fun hlen => ?_) | refine zN2 (fun hlen => ?_) | refine zAl (fun _ => ?_) | refine zBx (fun _ => ?_))
        refine zEl (Tr.at ha) (Tr.ts_len a) ?_
        repeat (first | refine gG ?_ | refine zN1 (fun hlen => ?_) | refine zN2 (fun hlen => ?_) | refine zAl (fun _ => ?_) | refine zBx (fun _ => ?_))
        refine zCall (h1) ?_
        rintro _ ⟨b1, rfl⟩
        cases b1
        · repeat (first | refine gG ?_ | refine zN1 (fun hlen => ?_) | refine zN2 (fun hlen => ?_) | refine zAl (fun _ => ?_) | refine zBx (fun _ => ?_))
          first | refine zR ?_ | refine zQ ?_
          exact ⟨_, rfl⟩
        · repeat (first | refine gG ?_ | refine zN1 (fun hlen => ?_) | refine zN2 (fun hlen => ?_) | refine zAl (fun _ => ?_) | refine zBx (fun _ => ?_))
          exact ⟨k + 1, hk', by omega, x_wkd 1 ⟨rfl, trivial⟩ rfl (by repeat (first | exact ag_refl | refine ag_upd rfl ?_ | refine ag_at rfl rfl ?_))⟩
      · repeat (first | refine gG ?_ | refine zN1 (fun hlen => ?_) | refine zN2 (fun hlen => ?_) | refine zAl (fun _ => ?_) | refine zBx (fun _ => ?_))
        refine x_loop [2, 10, 74, 75, 76, 77, 78, 79, 80, 81, 82] (fun k : Nat => [(74, .c (.lit (.int .i64 k)))]) (fun _ => [.box b0 29 [.c (.lit (.string pn)), .c (.lit (.int .i64 pv)), .c (Us.row us), .c (Da.row das), .c (Tr.row trs), .c (Im.row ims), .c (Fu.row fus), .c (Ac.row acs)]]) (fun k => k ≤ ims.length) (fun k => ims.length - k) 0 (Nat.zero_le _) ⟨rfl, trivial⟩ rfl fun k hk => ?_
        repeat (first | refine gG ?_ | refine zN1 (fun hlen => ?_) | refine zN2 (fun hlen => ?_) | refine zAl (fun _ => ?_) | refine zBx (fun _ => ?_))
        refine x_cond rfl (fun h => ?_) (fun h => ?_)
        · have hk' : k < ims.length := by simpa using h
          obtain ⟨a, ha⟩ := nth hk'
          have hs := Im.size_mem (List.mem_of_getElem? ha)
          simp only [Im.size] at hs
          have h1 := funcsSmall_af a.funcs (by omega)
          repeat (first | refine gG ?_ | refine zN1 (fun hlen => ?_) | refine zN2 (fun hlen => ?_) | refine zAl (fun _ => ?_) | refine zBx (fun _ => ?_))
          refine zIx (k) (hk') ?_
          repeat (first | refine gG ?_ | refine zN1 (fun hlen => ?_) | refine zN2 (fun hlen => ?_) | refine zAl (fun _ => ?_) | refine zBx (fun _ => ?_))
          refine zEl (Im.at ha) (Im.ts_len a) ?_
          repeat (first | refine gG ?_ | refine zN1 (fun hlen => ?_) | refine zN2 (fun hlen => ?_) | refine zAl (fun _ => ?_) | refine zBx (fun _ => ?_))
          refine zCall (h1) ?_
          rintro _ ⟨b1, rfl⟩
          cases b1
          · repeat (first | refine gG ?_ | refine zN1 (fun hlen => ?_) | refine zN2 (fun hlen => ?_) | refine zAl (fun _ => ?_) | refine zBx (fun _ => ?_))
            first | refine zR ?_ | refine zQ ?_
            exact ⟨_, rfl⟩
          · repeat (first | refine gG ?_ | refine zN1 (fun hlen => ?_) | refine zN2 (fun hlen => ?_) | refine zAl (fun _ => ?_) | refine zBx (fun _ => ?_))
            exact ⟨k + 1, hk', by omega, x_wkd 1 ⟨rfl, trivial⟩ rfl (by repeat (first | exact ag_refl | refine ag_upd rfl ?_ | refine ag_at rfl rfl ?_))⟩
        · repeat (first | refine gG ?_ | refine zN1 (fun hlen => ?_) | refine zN2 (fun hlen => ?_) | refine zAl (fun _ => ?_) | refine zBx (fun _ => ?_))
          refine x_drop 0 rfl ?_
          refine x_loop [2, 12, 86, 87, 88, 89, 90, 91, 92, 93, 94, 95, 96, 97, 98, 99, 100, 101, 102, 103, 104, 105, 106, 107] (fun k : Nat => [(86, .c (.lit (.int .i64 k)))]) (fun _ => []) (fun k => k ≤ acs.length) (fun k => acs.length - k) 0 (Nat.zero_le _) ⟨rfl, trivial⟩ rfl fun k hk => ?_
          repeat (first | refine gG ?_ | refine zN1 (fun hlen => ?_) | refine zN2 (fun hlen => ?_) | refine zAl (fun _ => ?_) | refine zBx (fun _ => ?_))
          refine x_cond rfl (fun h => ?_) (fun h => ?_)
          · have hk' : k < acs.length := by simpa using h
            obtain ⟨a, ha⟩ := nth hk'
            have hs := Ac.size_mem (List.mem_of_getElem? ha)
            simp only [Ac.size] at hs
            have h1 := typesSmall_af a.types (by omega)
            have h2 := typesSmall_af [a.msg] (by simp only [Y.sizes]; omega)
            have h3 := exprSmall_af a.body (by omega)
            repeat (first | refine gG ?_ | refine zN1 (fun hlen => ?_) | refine zN2 (fun hlen => ?_) | refine zAl (fun _ => ?_) | refine zBx (fun _ => ?_))
            refine zIx (k) (hk') ?_
            repeat (first | refine gG ?_ | refine zN1 (fun hlen => ?_) | refine zN2 (fun hlen => ?_) | refine zAl (fun _ => ?_) | refine zBx (fun _ => ?_))
            refine zEl (Ac.at ha) (Ac.ts_len a) ?_
            obtain ⟨nm, ns, ys, ⟨ka, ta, la⟩, ⟨kb, nb, tb, nsb, ysb, lb, rsb, pb⟩⟩ := a
            dsimp only at h1 h2 h3
            repeat (first | refine gG ?_ | refine zN1 (fun hlen => ?_) | refine zN2 (fun hlen => ?_) | refine zAl (fun _ => ?_) | refine zBx (fun _ => ?_))
            refine zCall (h1) ?_
            rintro _ ⟨b1, rfl⟩
            cases b1
            · repeat (first | refine gG ?_ | refine zN1 (fun hlen => ?_) | refine zN2 (fun hlen => ?_) | refine zAl (fun _ => ?_) | refine zBx (fun _ => ?_))
              first | refine zR ?_ | refine zQ ?_
              exact ⟨_, rfl⟩
            · repeat (first | refine gG ?_ | refine zN1 (fun hlen => ?_) | refine zN2 (fun hlen => ?_) | refine zAl (fun _ => ?_) | refine zBx (fun _ => ?_))
              refine zCall (h2) ?_
              rintro _ ⟨b2, rfl⟩
              cases b2
              · repeat (first | refine gG ?_ | refine zN1 (fun hlen => ?_) | refine zN2 (fun hlen => ?_) | refine zAl (fun _ => ?_) | refine zBx (fun _ => ?_))
                first | refine zR ?_ | refine zQ ?_
                exact ⟨_, rfl⟩
              · repeat (first | refine gG ?_ | refine zN1 (fun hlen => ?_) | refine zN2 (fun hlen => ?_) | refine zAl (fun _ => ?_) | refine zBx (fun _ => ?_))
                refine zCall (h3) ?_
                rintro _ ⟨b3, rfl⟩
                cases b3
                · repeat (first | refine gG ?_ | refine zN1 (fun hlen => ?_) | refine zN2 (fun hlen => ?_) | refine zAl (fun _ => ?_) | refine zBx (fun _ => ?_))
                  first | refine zR ?_ | refine zQ ?_
                  exact ⟨_, rfl⟩
                · repeat (first | refine gG ?_ | refine zN1 (fun hlen => ?_) | refine zN2 (fun hlen => ?_) | refine zAl (fun _ => ?_) | refine zBx (fun _ => ?_))
                  exact ⟨k + 1, hk', by omega, x_wkd 0 ⟨rfl, trivial⟩ rfl (by repeat (first | exact ag_refl | refine ag_upd rfl ?_ | refine ag_at rfl rfl ?_))⟩
          · repeat (first | refine gG ?_ | refine zN1 (fun hlen => ?_) | refine zN2 (fun hlen => ?_) | refine zAl (fun _ => ?_) | refine zBx (fun _ => ?_))
            first | refine zR ?_ | refine zQ ?_
            exact ⟨_, rfl⟩
  · repeat (first | refine gG ?_ | refine zN1 (fun hlen => ?_) | refine zN2 (fun hlen => ?_) | refine zAl (fun _ => ?_) | refine zBx (fun _ => ?_))
    first | refine zR ?_ | refine zQ ?_
    exact ⟨_, rfl⟩
end Go.Proofs.Ytmdmgpnaiknlaaa
namespace Go.Proofs.Ytmdmgpnaiknlaaa
open Go.RowKit
theorem AF.imq {P : Program} {f : FuncId} {args : List T} {R R' : T → Prop} (h : AF P f args R) (hi : ∀ r, R r → R' r) : AF P f args R' :=
  ⟨h.1, fun M w vs hg hm hv => (h.2 M w vs hg hm hv).mono fun _ _ ⟨v, r, M', h1, h2, h3⟩ => ⟨v, r, M', h1, hi r h2, h3⟩⟩
set_option maxRecDepth 100000 in
set_option maxHeartbeats 1000000 in
theorem eqStrSelf_af (l : List ByteArray) : AF Try.prog 11 [strRow l, strRow l] (· = .lit (.bool true)) := by
  have q1 : decide (((l.length : Nat) : Int) = ((l.length : Nat) : Int)) = true := decide_eq_true rfl
  refine af_enter tok Try.func11 Try.ntmps11 Try.results11 rfl (by kernel_rfl) rfl rfl fun F hX => ?_
  repeat (first | refine gG ?_ | refine zN1 (fun hlen => ?_) | refine zN2 (fun hlen => ?_))
  refine x_loop [4, 5, 13, 14, 15, 16, 17, 18, 19, 20, 21, 22, 23, 24, 25] (fun k : Nat => [(13, .c (.lit (.int .i64 (k : Nat))))]) (fun _ => []) (fun k => k ≤ l.length) (fun k => l.length - k) 0 (Nat.zero_le _) ⟨rfl, trivial⟩ rfl ?_
  rintro k hk
  repeat (first | refine gG ?_ | refine zN1 (fun hlen => ?_) | refine zN2 (fun hlen => ?_))
  refine x_cond rfl (fun h => ?_) (fun h => ?_)
  · have hk' : k < l.length := by simpa using h
    obtain ⟨r, hr⟩ := nth hk'
    have hat : (l.flatMap strTs)[k * 1]? = some (.lit (.string r)) := by rw [Nat.mul_one]; exact str_at hr
    have hself : decide (r = r) = true := decide_eq_true rfl
    clear h hr
    repeat (first | refine gG ?_ | refine zN1 (fun hlen => ?_) | refine zN2 (fun hlen => ?_))
    refine ac_draw [1, 1, 1, 1, 1, 1, 1, 1, 1] [0, 1, 2, 3, 4, 5, 6, 7, 8] (by kernel_rfl) (by kernel_rfl) ?_
    refine gW ?_
    apply w_q; (focus exact rfl); (focus exact rfl); focus (intro _; (refine zIx k hk' ?_); exact det_refl)
    apply w_q; (focus exact rfl); (focus exact rfl); focus (intro _; (refine zEl1 hat ?_); exact det_refl)
    refine gW ?_
    apply w_q; (focus exact rfl); (focus exact rfl); focus (intro _; (refine zIx k hk' ?_); exact det_refl)
    apply w_q; (focus exact rfl); (focus exact rfl); focus (intro _; (refine zEl1 hat ?_); exact det_refl)
    refine gW ?_
    refine w_nil ?_
    repeat (first | refine gG ?_ | refine zN1 (fun hlen => ?_) | refine zN2 (fun hlen => ?_))
    exact ⟨k + 1, hk', by omega, x_wkd 0 ⟨rfl, trivial⟩ rfl (by repeat (first | exact ag_refl | refine ag_upd rfl ?_ | refine ag_at rfl rfl ?_))⟩
  · have hk' : k = l.length := by
      have : ¬ k < l.length := by simpa using h
      omega
    subst hk'
    clear h
    repeat (first | refine gG ?_ | refine zN1 (fun hlen => ?_) | refine zN2 (fun hlen => ?_))
    first | refine zR ?_ | refine zQ ?_
    rfl
theorem yflat (l : List Y) : Y.row l = .row l.length 3 (l.flatMap Y.ts) := by rw [Y.row, Y.all_eq]
def yRow (l : List Y) : T := .row l.length 3 (l.flatMap Y.ts)
set_option maxRecDepth 100000 in
set_option maxHeartbeats 1000000 in
theorem eqYs_af (f : FuncId) (l : List Y) (hf : ∀ a ∈ l, AF Try.prog f [.agg (Y.ts a), .agg (Y.ts a)] (· = .lit (.bool true))) :
    AF Try.prog 12 [yRow l, yRow l, .fn (.func f) []] (· = .lit (.bool true)) := by
  have e0 : decide ((l.length : Int) = (l.length : Int)) = true := by simp
  refine af_enter tok Try.func12 Try.ntmps12 Try.results12 rfl (by kernel_rfl) rfl rfl fun F hX => ?_
  repeat (first | refine gG ?_ | refine zN1 (fun hlen => ?_) | refine zN2 (fun hlen => ?_) | refine zAl (fun _ => ?_))
  refine x_loop [6, 7, 8, 9, 17, 18, 19, 20, 21, 22, 23, 24, 25, 26, 27, 28, 29, 30, 31] (fun k : Nat => [(17, .c (.lit (.int .i64 k)))]) (fun _ => []) (fun k => k ≤ l.length) (fun k => l.length - k) 0 (Nat.zero_le _) ⟨rfl, trivial⟩ rfl fun k hk => ?_
  repeat (first | refine gG ?_ | refine zN1 (fun hlen => ?_) | refine zN2 (fun hlen => ?_) | refine zAl (fun _ => ?_))
  refine x_cond rfl (fun h => ?_) (fun h => ?_)
  · have hk' : k < l.length := by simpa using h
    obtain ⟨a, ha⟩ := nth hk'
    have hp := hf a (List.mem_of_getElem? ha)
    repeat (first | refine gG ?_ | refine zN1 (fun hlen => ?_) | refine zN2 (fun hlen => ?_) | refine zAl (fun _ => ?_))
    refine zIx (k) (hk') ?_
    repeat (first | refine gG ?_ | refine zN1 (fun hlen => ?_) | refine zN2 (fun hlen => ?_) | refine zAl (fun _ => ?_))
    refine zEl (flat_at Y.ts 3 Y.ts_len ha) (Y.ts_len a) ?_
    obtain ⟨ky, ny, ly⟩ := a
    repeat (first | refine gG ?_ | refine zN1 (fun hlen => ?_) | refine zN2 (fun hlen => ?_) | refine zAl (fun _ => ?_))
    refine zIx (k) (hk') ?_
    repeat (first | refine gG ?_ | refine zN1 (fun hlen => ?_) | refine zN2 (fun hlen => ?_) | refine zAl (fun _ => ?_))
    refine zEl (flat_at Y.ts 3 Y.ts_len ha) (Y.ts_len _) ?_
    repeat (first | refine gG ?_ | refine zN1 (fun hlen => ?_) | refine zN2 (fun hlen => ?_) | refine zAl (fun _ => ?_))
    refine zCallc (hp) ?_
    rintro _ rfl
    repeat (first | refine gG ?_ | refine zN1 (fun hlen => ?_) | refine zN2 (fun hlen => ?_) | refine zAl (fun _ => ?_))
    exact ⟨k + 1, hk', by omega, x_wkd 0 ⟨rfl, trivial⟩ rfl (by repeat (first | exact ag_refl | refine ag_upd rfl ?_ | refine ag_at rfl rfl ?_))⟩
  · repeat (first | refine gG ?_ | refine zN1 (fun hlen => ?_) | refine zN2 (fun hlen => ?_) | refine zAl (fun _ => ?_))
    first | refine zR ?_ | refine zQ ?_
    rfl
set_option maxRecDepth 100000 in
set_option maxHeartbeats 1000000 in
theorem sameTy_af (a : Y) : AF Try.prog 13 [a.t, a.t] (· = .lit (.bool true)) := by
  induction a using Y.ind with
  | h k n l ih =>
    have hc := eqYs_af 13 l (fun a ha => ih a ha)
    rw [show yRow l = Y.row l from (yflat l).symm] at hc
    have q1 : decide (k = k) = true := decide_eq_true rfl
    have q2 : decide (n = n) = true := decide_eq_true rfl
    refine af_enter tok Try.func13 Try.ntmps13 Try.results13 rfl (by kernel_rfl) rfl rfl fun F hX => ?_
    repeat (first | refine gG ?_ | refine zBf ?_)
    refine zCall (hc) ?_
    rintro _ rfl
    repeat (first | refine gG ?_ | refine zBx (fun _ => ?_))
    first | refine zR ?_ | refine zQ ?_
    rfl
set_option maxRecDepth 100000 in
set_option maxHeartbeats 1000000 in
theorem idxAcF_af (p : Ac → Bool) (f : FuncId) (cap : List T) (l : List Ac) (hf : ∀ a ∈ l, AF Try.prog f (.agg (Ac.ts a) :: cap) (· = .lit (.bool (p a)))) :
    AF Try.prog 8 [.row l.length 14 (l.flatMap Ac.ts), .fn (.func f) cap] (· = .lit (.int .i64 (idxI p l))) := by
  refine af_enter tok Try.func8 Try.ntmps8 Try.results8 rfl (by kernel_rfl) rfl rfl fun F hX => ?_
  repeat (first | refine gG ?_ | refine zN1 (fun hlen => ?_) | refine zN2 (fun hlen => ?_))
  refine x_loop [4, 5, 8, 9, 10, 11, 12, 13, 14, 15, 16, 17, 18] (fun k : Nat => [(8, .c (.lit (.int .i64 k)))]) (fun _ => []) (fun k => k ≤ l.length ∧ idxAt p l k) (fun k => l.length - k) 0 ⟨Nat.zero_le _, idxAt_zero p l⟩ ⟨rfl, trivial⟩ rfl fun k hk => ?_
  repeat (first | refine gG ?_ | refine zN1 (fun hlen => ?_) | refine zN2 (fun hlen => ?_))
  refine x_cond rfl (fun h => ?_) (fun h => ?_)
  · have hk' : k < l.length := by simpa using h
    obtain ⟨a, ha⟩ := nth hk'
    have hs := hf a (List.mem_of_getElem? ha)
    repeat (first | refine gG ?_ | refine zN1 (fun hlen => ?_) | refine zN2 (fun hlen => ?_))
    refine lo_idx tok k rfl rfl rfl hk' rfl rfl rfl rfl ?_
    repeat (first | refine gG ?_ | refine zN1 (fun hlen => ?_) | refine zN2 (fun hlen => ?_))
    refine lo_load_pin tok rfl rfl rfl (flat_at Ac.ts 14 Ac.ts_len ha) (Ac.ts_len a) ?_
    repeat (first | refine gG ?_ | refine zN1 (fun hlen => ?_) | refine zN2 (fun hlen => ?_))
    refine v_callc hs rfl (by first | exact rzs_cons rz_c rzs_self | (repeat (first | exact rzs_nil | apply rzs_cons | exact rz_c | exact rz_nil rfl | apply rz_agg | exact rz_own rfl | apply rz_fn | exact rz_ptr rfl | apply rz_tup))) ?_
    rintro _ rfl
    cases hp : p a
    · repeat (first | refine gG ?_ | refine zN1 (fun hlen => ?_) | refine zN2 (fun hlen => ?_))
      exact ⟨k + 1, ⟨hk', idxAt_no hk.2 ha hp⟩, by omega, x_wkd 0 ⟨rfl, trivial⟩ rfl (by repeat (first | exact ag_refl | refine ag_upd rfl ?_ | refine ag_at rfl rfl ?_))⟩
    · repeat (first | refine gG ?_ | refine zN1 (fun hlen => ?_) | refine zN2 (fun hlen => ?_))
      first | refine zR ?_ | refine zQ ?_
      rw [idxAt_yes hk.2 ha hp]; rfl
  · have hk' : k = l.length := by have : ¬ k < l.length := by simpa using h
                                  omega
    subst hk'
    repeat (first | refine gG ?_ | refine zN1 (fun hlen => ?_) | refine zN2 (fun hlen => ?_))
    first | refine zR ?_ | refine zQ ?_
    rw [idxAt_end hk.2]; rfl
set_option maxRecDepth 100000 in
theorem shape1_af (a x : Ac) : AF Try.prog 9 [.agg (Ac.ts a), .pin (Ac.ts x) 0] (· = .lit (.bool (decide (a.name = x.name)))) := by
  obtain ⟨an, ans, ays, ⟨mk, mn, ml⟩, ⟨bk, bn, bt, bns, bys, bl, brs, bp⟩⟩ := a
  obtain ⟨xn, xns, xys, ⟨xk, xm, xl⟩, ⟨yk, yn, yt, yns, yys, yl, yrs, yp⟩⟩ := x
  refine af_enter tok Try.func9 Try.ntmps9 Try.results9 rfl (by kernel_rfl) rfl rfl fun F hX => ?_
  repeat (first | refine gG ?_ | refine zBf ?_)
  first | refine zR ?_ | refine zQ ?_
  rfl
theorem find_at {α : Type} (P : α → Bool) : ∀ {l : List α} {k : Nat} {x : α}, l[k]? = some x → P x = true → ∃ (i : Nat) (d : α), idxI P l = i ∧ l[i]? = some d ∧ l.find? P = some d ∧ P d = true
  | [], _, _, h, _ => by simp at h
  | a :: l, k, x, h, hp => by
    rw [idxI_cons, List.find?_cons]
    cases ha : P a with
    | true => exact ⟨0, a, by simp, rfl, rfl, ha⟩
    | false =>
      cases k with
      | zero =>
        simp at h
        subst h
        rw [ha] at hp; cases hp
      | succ k =>
        obtain ⟨i, d, h1, h2, h3, h4⟩ := find_at P (l := l) (by simpa using h) hp
        rw [h1]
        have : ¬ ((i : Nat) : Int) < 0 := by omega
        exact ⟨i + 1, d, by simp [this], by simpa using h2, h3, h4⟩
def Le2 (M : Mm) : List T → List T → Prop
  | [], [] => True
  | t :: ts, t' :: ts' => (∀ v, RT M t v → RT M t' v) ∧ Le2 M ts ts'
  | [], _ :: _ => False
  | _ :: _, [] => False
theorem le2_rts {M : Mm} : ∀ {ts ts' : List T} {vs : List Value}, Le2 M ts ts' → RTs M ts vs → RTs M ts' vs
  | [], [], _, _, h => h
  | t :: ts, t' :: ts', vs, g, h => by
    simp only [RTs] at h ⊢
    obtain ⟨v, r, h1, h2, h3⟩ := h
    exact ⟨v, r, h1, g.1 v h2, le2_rts g.2 h3⟩
  | [], _ :: _, _, g, _ => by cases g
  | _ :: _, [], _, g, _ => by cases g
theorem le_agg {M : Mm} {ts ts' : List T} (h : Le2 M ts ts') {v : Value} (hv : RT M (.agg ts) v) : RT M (.agg ts') v := by
  simp only [RT] at hv ⊢
  obtain ⟨xs, h1, h2⟩ := hv
  exact ⟨xs, h1, le2_rts h h2⟩
def pr0 : Pr := ⟨⟨#[]⟩, 0, [], [], [], [], [], []⟩
def nS : T := .lit (.slice none 0 0)
def nilP : List T := [.lit (.string ⟨#[]⟩), .lit (.int .i64 0), nS, nS, nS, nS, nS, nS]
def nilY : List T := [.lit (.int .i64 1), .lit (.string ⟨#[]⟩), nS]
theorem le_pr0 (M : Mm) (v : Value) (h : RT M (.agg nilP) v) : RT M pr0.t v := by
  refine le_agg (ts := nilP) (ts' := pr0.ts) ?_ h
  show Le2 M [.lit (.string ⟨#[]⟩), .lit (.int .i64 0), nS, nS, nS, nS, nS, nS] [.lit (.string ⟨#[]⟩), .lit (.int .i64 0), Us.row [], Da.row [], Tr.row [], Im.row [], Fu.row [], Ac.row []]
  simp only [Le2]
  exact ⟨fun _ h => h, fun _ h => h, fun _ h => rt_nilrow (by omega) h, fun _ h => rt_nilrow (by omega) h, fun _ h => rt_nilrow (by omega) h, fun _ h => rt_nilrow (by omega) h, fun _ h => rt_nilrow (by omega) h, fun _ h => rt_nilrow (by omega) h, trivial⟩
theorem le_y1 (M : Mm) (v : Value) (h : RT M (.agg nilY) v) : RT M (Y.t (.mk 1 ⟨#[]⟩ [])) v := by
  refine le_agg (ts := nilY) (ts' := Y.ts (.mk 1 ⟨#[]⟩ [])) ?_ h
  show Le2 M [.lit (.int .i64 1), .lit (.string ⟨#[]⟩), nS] [.lit (.int .i64 1), .lit (.string ⟨#[]⟩), Y.row []]
  simp only [Le2]
  exact ⟨fun _ h => h, fun _ h => h, fun _ h => rt_nilrow (by omega) h, trivial⟩
theorem same0_af : AF Try.prog 5 [.agg nilP, .agg nilP, .agg nilY, .agg nilY] (· = .lit (.bool true)) :=
  ((shapeSame_af pr0 pr0 (.mk 1 ⟨#[]⟩ []) (.mk 1 ⟨#[]⟩ [])).imq fun r ⟨z, h1, h2⟩ => by
    rw [h1, h2.2 ⟨fun _ => False, fun _ h => h.elim, by
      rw [Y.lk]
      refine ⟨rfl, by omega, ?_, by rw [Y.lks]; trivial⟩
      unfold nmOk
      rw [if_neg (by omega), if_neg (by omega)]
      exact ⟨rfl, rfl⟩⟩]).re fun M vs hv => le2_rts (ts := [.agg nilP, .agg nilP, .agg nilY, .agg nilY]) (by simp only [Le2]; exact ⟨le_pr0 M, le_pr0 M, le_y1 M, le_y1 M, trivial⟩) hv
set_option maxRecDepth 100000 in
set_option maxHeartbeats 8000000 in
theorem shapeSame_law (p q : Pr) (a b : Y) (hp : p.size ≤ 1048576) (hq : q.size ≤ 1048576) (hab : a.size + b.size ≤ 1048576) : AF Try.prog 3 [p.t, q.t, a.t, b.t] (· = .lit (.bool true)) := by
  have h0 := same0_af
  have h1 := programSmall_af p hp
  have h2 := programSmall_af q hq
  have h3 := typesSmall_af [a, b] (by simp only [Y.sizes]; omega)
  obtain ⟨zz, hzz⟩ := bool_of (∃ A, PF p q A ∧ a.lk A [] [] b)
  have h4 : AF Try.prog 5 [p.t, q.t, a.t, b.t] (· = .lit (.bool zz)) := (shapeSame_af p q a b).imq fun r ⟨u, e1, e2⟩ => by rw [e1, bool_iff e2 hzz]
  have h5 : AF Try.prog 14 [p.t, q.t, a.t, b.t] (· = .lit (.bool zz)) := (refShape_af p q a b).imq fun r ⟨u, e1, e2⟩ => by rw [e1, bool_iff e2 hzz]
  have hact := fun n => actor_af p n hp
  have hix := fun x : Ac => idxAcF_af (fun z : Ac => decide (z.name = x.name)) 9 [.pin (Ac.ts x) 0] p.actors (fun z _ => shape1_af z x)
  have hfa := fun k x (h : p.actors[k]? = some x) => find_at (fun z : Ac => decide (z.name = x.name)) h (decide_eq_true rfl)
  clear hzz hp hq hab
  obtain ⟨pn, pv, us, das, trs, ims, fus, acs⟩ := p
  obtain ⟨qn, qv, qus, qdas, qtrs, qims, qfus, qacs⟩ := q
  obtain ⟨ka, ta, la⟩ := a
  obtain ⟨kb, tb, lb⟩ := b
  unfold Pr.actor at hact
  dsimp only at hact hix hfa
  unfold Tell at *
  unfold nilP nilY nS at h0
  refine af_enter tok Try.func3 Try.ntmps3 Try.results3 rfl (by kernel_rfl) rfl rfl fun F hX => ?_
  repeat (first | refine gG ?_ | refine zN1 (fun hlen => ?_) | refine zN2 (fun hlen => ?_) | refine zAl (fun _ => ?_) | refine zBf ?_)
  refine zCall (h0) ?_
  rintro _ rfl
  clear h0
  repeat (first | refine gG ?_ | refine zN1 (fun hlen => ?_) | refine zN2 (fun hlen => ?_) | refine zAl (fun _ => ?_) | refine zBf ?_)
  refine zCall (h1) ?_
  rintro _ ⟨z1, rfl⟩
  clear h1
  cases z1
  · repeat (first | refine gG ?_ | refine zN1 (fun hlen => ?_) | refine zN2 (fun hlen => ?_) | refine zAl (fun _ => ?_) | refine zBx (fun _ => ?_))
    first | refine zR ?_ | refine zQ ?_
    rfl
  repeat (first | refine gG ?_ | refine zN1 (fun hlen => ?_) | refine zN2 (fun hlen => ?_) | refine zAl (fun _ => ?_) | refine zBx (fun _ => ?_))
  refine zCall (h2) ?_
  rintro _ ⟨z2, rfl⟩
  clear h2
  cases z2
  · repeat (first | refine gG ?_ | refine zN1 (fun hlen => ?_) | refine zN2 (fun hlen => ?_) | refine zAl (fun _ => ?_) | refine zBx (fun _ => ?_))
    first | refine zR ?_ | refine zQ ?_
    rfl
  repeat (first | refine gG ?_ | refine zN1 (fun hlen => ?_) | refine zN2 (fun hlen => ?_) | refine zAl (fun _ => ?_) | refine zBx (fun _ => ?_))
  refine zCall (h3) ?_
  rintro _ ⟨z3, rfl⟩
  clear h3
  cases z3
  · repeat (first | refine gG ?_ | refine zN1 (fun hlen => ?_) | refine zN2 (fun hlen => ?_) | refine zAl (fun _ => ?_) | refine zBx (fun _ => ?_))
    first | refine zR ?_ | refine zQ ?_
    rfl
  repeat (first | refine gG ?_ | refine zN1 (fun hlen => ?_) | refine zN2 (fun hlen => ?_) | refine zAl (fun _ => ?_) | refine zBx (fun _ => ?_))
  refine x_loop [8, 10, 11, 12, 13, 14, 39, 40, 41, 42, 43, 44, 45, 46, 47, 48, 49, 50, 51, 52, 53, 54, 55, 56, 57, 58, 59, 60, 61, 62, 63, 64, 65, 66, 67, 68, 69, 70, 71, 72, 73, 74, 75, 76, 77, 78, 79, 80, 81, 82, 83, 84, 85, 86, 87, 88, 89, 90, 91, 92, 93, 94, 95, 96, 97, 98] (fun k : Nat => [(39, .c (.lit (.int .i64 (k : Nat))))]) (fun _ => []) (fun k => k ≤ acs.length) (fun k => acs.length - k) 0 (Nat.zero_le _) ⟨rfl, trivial⟩ rfl fun k hk => ?_
  repeat (first | refine gG ?_ | refine zN1 (fun hlen => ?_) | refine zN2 (fun hlen => ?_) | refine zAl (fun _ => ?_) | refine zBx (fun _ => ?_))
  refine x_cond rfl (fun h => ?_) (fun h => ?_)
  · have hk' : k < acs.length := by simpa using h
    obtain ⟨x, hx⟩ := nth hk'
    have hat := Ac.at hx
    have hi := hix x
    obtain ⟨i, z, e1, e2, e3, e4⟩ := hfa k x hx
    rw [e1] at hi
    have ha := hact x.name
    rw [e3] at ha
    have hzt := Ac.at e2
    have hil : i < acs.length := (List.getElem?_eq_some_iff.1 e2).1
    have c1 := eqStrSelf_af z.names
    have c2 := eqYs_af 13 z.types (fun a _ => sameTy_af a)
    rw [show yRow z.types = Y.row z.types from (yflat z.types).symm] at c2
    have c3 := sameTy_af z.msg
    clear h hx hix hact hfa e1 e2 e3 e4 h4 h5
    obtain ⟨xn, xns, xys, ⟨xk, xm, xl⟩, ⟨yk, yn, yt, yns, yys, yl, yrs, yp⟩⟩ := x
    obtain ⟨an, ans, ays, ⟨mk, mn, ml⟩, ⟨bk, bn, bt, bns, bys, bl, brs, bp⟩⟩ := z
    dsimp only at ha c1 c2 c3
    have d1 : decide (an = an) = true := decide_eq_true rfl
    repeat (first | refine gG ?_ | refine zN1 (fun hlen => ?_) | refine zN2 (fun hlen => ?_) | refine zAl (fun _ => ?_) | refine zBx (fun _ => ?_))
    refine zIx (k) (hk') ?_
    repeat (first | refine gG ?_ | refine zN1 (fun hlen => ?_) | refine zN2 (fun hlen => ?_) | refine zAl (fun _ => ?_) | refine zBx (fun _ => ?_))
    refine zEl (hat) (Ac.ts_len _) ?_
    repeat (first | refine gG ?_ | refine zN1 (fun hlen => ?_) | refine zN2 (fun hlen => ?_) | refine zAl (fun _ => ?_) | refine zBx (fun _ => ?_))
    refine zPeek hi ?_
    rintro _ rfl
    refine ⟨rfl, ?_⟩
    repeat (first | refine gG ?_ | refine zN1 (fun hlen => ?_) | refine zN2 (fun hlen => ?_) | refine zAl (fun _ => ?_) | refine zBx (fun _ => ?_))
    refine zCall (ha) ?_
    rintro _ rfl
    repeat (first | refine gG ?_ | refine zN1 (fun hlen => ?_) | refine zN2 (fun hlen => ?_) | refine zAl (fun _ => ?_) | refine zBx (fun _ => ?_))
    refine zIx (i) (hil) ?_
    repeat (first | refine gG ?_ | refine zN1 (fun hlen => ?_) | refine zN2 (fun hlen => ?_) | refine zAl (fun _ => ?_) | refine zBx (fun _ => ?_))
    refine zEl (hzt) (Ac.ts_len _) ?_
    repeat (first | refine gG ?_ | refine zN1 (fun hlen => ?_) | refine zN2 (fun hlen => ?_) | refine zAl (fun _ => ?_) | refine zBx (fun _ => ?_))
    refine zCall (c1) ?_
    rintro _ rfl
    repeat (first | refine gG ?_ | refine zN1 (fun hlen => ?_) | refine zN2 (fun hlen => ?_) | refine zAl (fun _ => ?_) | refine zBx (fun _ => ?_))
    refine zCall (c2) ?_
    rintro _ rfl
    repeat (first | refine gG ?_ | refine zN1 (fun hlen => ?_) | refine zN2 (fun hlen => ?_) | refine zAl (fun _ => ?_) | refine zBx (fun _ => ?_))
    refine zCall (c3) ?_
    rintro _ rfl
    repeat (first | refine gG ?_ | refine zN1 (fun hlen => ?_) | refine zN2 (fun hlen => ?_) | refine zAl (fun _ => ?_) | refine zBx (fun _ => ?_))
    exact ⟨k + 1, hk', by omega, x_wkd 0 ⟨rfl, trivial⟩ rfl (by repeat (first | exact ag_refl | refine ag_upd rfl ?_ | refine ag_at rfl rfl ?_))⟩
  · clear h hact hix hfa
    repeat (first | refine gG ?_ | refine zN1 (fun hlen => ?_) | refine zN2 (fun hlen => ?_) | refine zAl (fun _ => ?_) | refine zBx (fun _ => ?_))
    refine ac_draw [1, 1, 1, 1, 1, 1, 1, 1, 1, 1, 1, 1] [0, 1, 2, 3, 4, 5, 6, 7, 8, 9, 10, 11] (by kernel_rfl) (by kernel_rfl) ?_
    refine gW ?_
    apply w_q; (focus exact rfl); (focus exact rfl); focus (intro _; (refine zCall h4 ?_; rintro _ rfl); exact det_refl)
    refine gW ?_
    apply w_q; (focus exact rfl); (focus exact rfl); focus (intro _; (refine zCall h5 ?_; rintro _ rfl); exact det_refl)
    apply w_q; (focus exact rfl); (focus exact rfl); focus (intro _; (refine lo_eqbr (r := true) (decide_eq_true rfl) ?_); exact det_refl)
    refine gW ?_
    refine w_nil ?_
    repeat (first | refine gG ?_ | refine zN1 (fun hlen => ?_) | refine zN2 (fun hlen => ?_) | refine zAl (fun _ => ?_) | refine zBx (fun _ => ?_))
    first | refine zR ?_ | refine zQ ?_
    rfl
end Go.Proofs.Ytmdmgpnaiknlaaa
namespace Go.Proofs.Ytmdmgpnaiknlaaa
open Go.ChangeShapes Go.WideShapes Go.ChangeAt Go.RowKit Go.Deep
section
variable {H : Type} {enc : TypeId × Value → H} {P : Program} {w : World} {base : Nat} {spare : Nat → Bool} {held : Bool}
theorem bulk_one (d : DataW H) : 1 ≤ Rows.uptoBulk d := by
  cases d with
  | lit l => cases l <;> simp [Rows.uptoBulk]
  | _ => simp [Rows.uptoBulk]
end
end Go.Proofs.Ytmdmgpnaiknlaaa
namespace Go.Proofs.Ytmdmgpnaiknlaaa
open Go.ChangeShapes Go.WideShapes Go.ChangeAt Go.RowKit
theorem own : ownKnob Try.prog.godebug = none := by kernel_rfl
theorem laidOut : laidOutB Try.prog = true := by kernel_rfl
section
variable {H : Type} {enc : TypeId × Value → H}
theorem trodAll_below {P : Program} (hl : laidOutB P = true) {W W' : World} (hb : Below W.heap.size W W') (ts : List TypeId) : ∀ (vs : List Value) (ds : List (DataW H)) (ps : List MemPlace),
    (ts.all fun t => P.readableRec t && decide (t < P.types.size)) = true → DataW.TrodAll enc P W 0 (fun _ => true) true ts vs ds ps → (∀ x ∈ ps, x.block < W.heap.size) →
    DataW.TrodAll enc P W' 0 (fun b => decide (b < W.heap.size)) true ts vs ds ps := by
  induction ts with
  | nil =>
    intro vs ds ps _ h _
    obtain ⟨rfl, rfl, rfl⟩ := trodAll_nil h
    rfl
  | cons t ts ih =>
    intro vs ds ps hr h hlt
    obtain ⟨v, vs', d, ds', p, q, rfl, rfl, rfl, h0, h1⟩ := trodAll_cons h
    simp only [List.all_cons, Bool.and_eq_true, decide_eq_true_eq] at hr
    refine ⟨p, q, Below.trod hl hr.1.1 hr.1.2 h0 hb fun x hx => hlt x (List.mem_append_left _ hx), ?_, rfl⟩
    exact ih vs' ds' q hr.2 h1 fun x hx => hlt x (List.mem_append_right _ hx)
theorem law_post {f : Func} {s : ChangeSpec} {W W' : World} {args : Array Value} {ds gs : List (DataW H)} {before : List MemPlace}
    (hW : DataW.Whole enc Try.prog f.params.toList s.vars false W args.toList ds gs before) (hv : s.vars = []) (hrt : f.resultTypes = #[4])
    (hr : (f.params.toList.all fun t => Try.prog.readableRec t && decide (t < Try.prog.types.size)) = true)
    (hres : (s.fn H (ds ++ gs)).results = [.lit (.bool true)]) (hargs : (s.fn H (ds ++ gs)).args = ds) (hvars : (s.fn H (ds ++ gs)).vars = []) (hb : Below W.heap.size W W') :
    s.post enc Try.prog f false true false false W args (.bool true) W' := by
  have hlt : ∀ p ∈ before, p.block < W.heap.size := fun p hp => hW.lt p hp
  have hW' := hW
  obtain ⟨p, q, hA, hV, rfl, _, _⟩ := hW'
  rw [hv] at hV
  obtain ⟨rfl, rfl⟩ := trodVars_none hV
  rw [List.append_nil] at hlt
  refine ⟨ds, [], _, [], p, [], hW, ?_, ?_, ?_, hb.frame _ |> World.keptBut_mono (fun x hx => ⟨hx, ?_⟩), fun h => by cases h⟩
  · rw [hrt, hres]
    exact trodAll_mk1 (shut_bool Try.underlying4 true)
  · rw [hargs]
    exact trodAll_below laidOut hb _ _ _ _ hr hA hlt
  · rw [hvars, hv]
    rfl
  · rw [List.append_nil] at hx
    exact .inr (.inl hx)
end
end Go.Proofs.Ytmdmgpnaiknlaaa
namespace Go.Proofs.Ytmdmgpnaiknlaaa
open Go.ChangeShapes Go.WideShapes Go.ChangeAt Go.RowKit Go.Deep
/-- all memory of a world -/
def memOf (w : World) : Mm := frz (fun _ => none) 0 w
theorem memOf_ok (w : World) : MemOk (memOf w) w := frz_ok (fun p v h => by cases h) 0
theorem memOf_at {w : World} {p : Addr} {v : Value} (h : w.cell? p = some v) (h1 : v.oneCell' = true) : memOf w p = some v := frz_new rfl (Nat.zero_le _) h h1
section
variable {H : Type} {enc : TypeId × Value → H} {P : Program} {w : World} {base : Nat} {spare : Nat → Bool} {held : Bool}
def Opens (enc : TypeId × Value → H) (P : Program) (w : World) (base : Nat) (spare : Nat → Bool) (held : Bool) (t : TypeId) {α : Type} (f : α → List T) (μ : α → Nat) (fuel : Nat) : Prop :=
  ∀ (cs : List Value) (x : DataW H × List MemPlace), DataW.trod enc P w base spare held fuel t cs = some x → ∃ a, RTs (memOf w) (f a) cs ∧ OneAll cs ∧ μ a ≤ Rows.uptoBulk x.1
theorem sum_le {α : Type} (μ : α → Nat) : ∀ (l : List α) (ds : List (DataW H)), l.length = ds.length → (∀ (i : Nat) (a : α) (d : DataW H), l[i]? = some a → ds[i]? = some d → μ a ≤ Rows.uptoBulk d) → (l.map μ).sum ≤ Rows.uptoBulkAll ds
  | [], [], _, _ => by simp [Rows.uptoBulkAll]
  | a :: l, d :: ds, hl, h => by
    have h1 := h 0 a d rfl rfl
    have h2 := sum_le μ l ds (by simpa using hl) fun i a d ha hd => h (i + 1) a d (by simpa using ha) (by simpa using hd)
    simp only [List.map_cons, List.sum_cons, Rows.uptoBulkAll]
    omega
  | [], _ :: _, hl, _ => by simp at hl
  | _ :: _, [], hl, _ => by simp at hl
theorem snoc_ind {α : Type} {p : List α → Prop} (h0 : p []) (h1 : ∀ l x, p l → p (l ++ [x])) (l : List α) : p l := by
  have : ∀ n (l : List α), l.length = n → p l := by
    intro n
    induction n with
    | zero => intro l hl; rw [List.eq_nil_of_length_eq_zero hl]; exact h0
    | succ n ih =>
      intro l hl
      have hne : l ≠ [] := fun e => by rw [e] at hl; cases hl
      rw [← List.dropLast_concat_getLast hne]
      exact h1 _ _ (ih _ (by simp [hl]))
  exact this l.length l rfl
theorem rows_of {α : Type} (f : α → List T) (sz : Nat) (hf : ∀ a, (f a).length = sz) {a : Addr} : ∀ (l : List α) (C : Nat → List Value), (∀ (i : Nat) (x : α), l[i]? = some x → RTs (memOf w) (f x) (C i) ∧ OneAll (C i) ∧ ∀ j u, (C i)[j]? = some u → w.cell? (a.add (i * sz + j)) = some u) →
    ∃ xs : List Value, xs.length = l.length * sz ∧ At (memOf w) a xs ∧ RTs (memOf w) (l.flatMap f) xs := by
  intro l
  induction l using snoc_ind with
  | h0 => exact fun _ _ => ⟨[], by simp, fun j x h => by simp at h, by simp [RTs]⟩
  | h1 l x ih =>
    intro C h
    obtain ⟨xs, h1, h2, h3⟩ := ih C fun i y hy => h i y (by rw [List.getElem?_append_left (List.getElem?_eq_some_iff.1 hy).1]; exact hy)
    obtain ⟨g1, g2, g3⟩ := h l.length x (by simp)
    have hcl := g1.len
    rw [hf] at hcl
    refine ⟨xs ++ C l.length, by simp [h1, hcl, Nat.add_mul], fun j u hu => ?_, ?_⟩
    · rw [List.getElem?_append] at hu
      split at hu
      · exact h2 j u hu
      · have := g3 _ u hu
        rw [show l.length * sz + (j - xs.length) = j by omega] at this
        exact memOf_at this (g2 u (List.mem_of_getElem? hu))
    · rw [List.flatMap_append]
      refine h3.app ?_
      simpa using g1
theorem opens_slice {α : Type} [Inhabited α] {t e : TypeId} (f : α → List T) (μ : α → Nat) (sz : Nat) (hsz : 0 < sz) (hf : ∀ a, (f a).length = sz) {fuel : Nat} (ht : P.underlying t = some (.slice e)) (hC : P.cellsOf e = sz)
    (hel : ∀ n, n < fuel → Opens enc P w base spare held e f μ n) : Opens enc P w base spare held t (fun l : List α => [.row l.length sz (l.flatMap f)]) (fun l => (l.map μ).sum + 1) fuel := by
  intro cs x h
  rcases DataW.trod_slice ht h with ⟨rfl, rfl⟩ | ⟨a, len, cap, elems, rest, n, hn, rfl, rfl, hb, hl, hm, hlen, hi, _, _⟩
  · refine ⟨[], ?_, fun u hu => by simp at hu; subst hu; rfl, by simp [Rows.uptoBulk]⟩
    simp only [RTs]
    exact ⟨_, _, rfl, rt_nil hsz (by simp only [RT]), rfl⟩
  · rw [hC] at hi
    have hv : ∀ i, i < len → ∃ p : α × List Value, (p.2.length = sz ∧ ∀ j u, p.2[j]? = some u → w.cell? (a.add (i * sz + j)) = some u) ∧ RTs (memOf w) (f p.1) p.2 ∧ OneAll p.2 ∧ ∀ y, elems[i]? = some y → μ p.1 ≤ Rows.uptoBulk y.1 := by
      intro i hil
      have hk := hi i hil
      rw [List.getElem?_eq_getElem (by omega)] at hk
      obtain ⟨cs', h1, h2⟩ := Option.bind_eq_some_iff.1 hk
      obtain ⟨el, h3, h4, h5⟩ := hel n (by omega) _ _ h2
      obtain ⟨_, hlen', hcell⟩ := World.cells?_some h1
      refine ⟨(el, cs'), ⟨hlen', fun j u hu => ?_⟩, h3, h4, fun y hy => ?_⟩
      · have hj : j < sz := by rw [← hlen']; exact (List.getElem?_eq_some_iff.1 hu).1
        rw [← hu, ← hcell j hj, add_add']
      · rw [List.getElem?_eq_getElem (by omega)] at hy
        injection hy with hy
        rw [← hy]; exact h5
    obtain ⟨G, hG⟩ := choose_lt (α := α × List Value) hv
    obtain ⟨xs, g1, g2, g3⟩ := rows_of (w := w) (a := a) f sz hf ((List.range len).map fun i => (G i).1) (fun i => (G i).2) (fun i x hx => by
      have hil : i < len := by have := (List.getElem?_eq_some_iff.1 hx).1; simpa using this
      simp [hil] at hx
      obtain ⟨k1, k2, k3, _⟩ := hG i hil
      rw [← hx]
      exact ⟨k2, k3, k1.2⟩)
    refine ⟨(List.range len).map fun i => (G i).1, ?_, fun u hu => by simp at hu; subst hu; rfl, ?_⟩
    · simp only [RTs]
      refine ⟨_, _, rfl, ?_, rfl⟩
      simp only [RT]
      exact ⟨some a, cap, xs, by simp, by simpa using hl, by simp; omega, hsz, g1, fun _ => ⟨a, rfl, g2⟩, g3⟩
    · have := sum_le μ ((List.range len).map fun i => (G i).1) (elems.map (·.1)) (by simp [hlen]) (fun i y d hy hd => by
        have hil : i < len := by have := (List.getElem?_eq_some_iff.1 hy).1; simpa using this
        simp [hil] at hy
        rw [List.getElem?_map] at hd
        obtain ⟨z, hz, rfl⟩ := Option.map_eq_some_iff.1 hd
        rw [← hy]
        exact (hG i hil).2.2.2 z hz)
      simp only [Rows.uptoBulk]
      omega
theorem opens_int {t : TypeId} {k : IntKind} {fuel : Nat} (ht : P.underlying t = some (.int k)) : Opens enc P w base spare held t (fun i : Int => [.lit (.int k i)]) (fun _ => 1) fuel := by
  intro cs x h
  obtain ⟨i, rfl, rfl, _⟩ := DataW.trod_int ht h
  exact ⟨i, by simp [RTs, RT], fun u hu => by simp at hu; subst hu; rfl, bulk_one _⟩
theorem opens_str {t : TypeId} {fuel : Nat} (ht : P.underlying t = some .string) : Opens enc P w base spare held t (fun s : ByteArray => [.lit (.string s)]) (fun _ => 1) fuel := by
  intro cs x h
  obtain ⟨i, rfl, rfl, _⟩ := DataW.trod_string ht h
  exact ⟨i, by simp [RTs, RT], fun u hu => by simp at hu; subst hu; rfl, bulk_one _⟩
end
/-- from a walk to the call: every law that takes trees and tells true -/
theorem law_call {P : Program} {f : FuncId} {ts : List T} {vs : List Value} {W : World} (h : AF P f ts (· = .lit (.bool true))) (hv : RTs (memOf W) ts vs) (hG : Glob W := by first | assumption | (intro x h; simp [globTab] at h)) : Calls P f vs.toArray W fun e W' => e = .returned (.bool true) ∧ Below W.heap.size W W' :=
  (h.2 (memOf W) W vs hG (memOf_ok W) hv).mono fun e w' ⟨v, r, M', he, hr, _, _, hrt, hb⟩ => by
    subst hr
    simp only [RT] at hrt
    rw [he, hrt]
    exact ⟨rfl, hb⟩
end Go.Proofs.Ytmdmgpnaiknlaaa
namespace Go.Proofs.Ytmdmgpnaiknlaaa
open Go.ChangeShapes Go.WideShapes Go.ChangeAt Go.RowKit Go.Deep
theorem listN2 {α : Type} {l : List α} (h : l.length = 2) : ∃ a b, l = [a, b] := match l, h with | [a, b], _ => ⟨a, b, rfl⟩
theorem listN3 {α : Type} {l : List α} (h : l.length = 3) : ∃ a b c, l = [a, b, c] := match l, h with | [a, b, c], _ => ⟨a, b, c, rfl⟩
theorem listN4 {α : Type} {l : List α} (h : l.length = 4) : ∃ a b c d, l = [a, b, c, d] := match l, h with | [a, b, c, d], _ => ⟨a, b, c, d, rfl⟩
theorem listN5 {α : Type} {l : List α} (h : l.length = 5) : ∃ a b c d e, l = [a, b, c, d, e] := match l, h with | [a, b, c, d, e], _ => ⟨a, b, c, d, e, rfl⟩
theorem listN6 {α : Type} {l : List α} (h : l.length = 6) : ∃ a b c d e f, l = [a, b, c, d, e, f] := match l, h with | [a, b, c, d, e, f], _ => ⟨a, b, c, d, e, f, rfl⟩
theorem listN8 {α : Type} {l : List α} (h : l.length = 8) : ∃ a b c d e f g i, l = [a, b, c, d, e, f, g, i] := match l, h with | [a, b, c, d, e, f, g, i], _ => ⟨a, b, c, d, e, f, g, i, rfl⟩
theorem rts_seg {M : Mm} {ts us : List T} {cs : List Value} {o c : Nat} (h : RTs M ts ((cs.drop o).take c)) (h' : RTs M us (cs.drop (o + c))) : RTs M (ts ++ us) (cs.drop o) := by
  have := h.app h'
  rwa [← List.drop_drop, List.take_append_drop] at this
theorem rts_end {M : Mm} {cs : List Value} {o : Nat} (h : cs.length = o) : RTs M [] (cs.drop o) := by rw [← h, List.drop_length]; simp [RTs]
theorem one_seg {cs : List Value} {o c : Nat} (h : OneAll ((cs.drop o).take c)) (h' : OneAll (cs.drop (o + c))) : OneAll (cs.drop o) := by
  have := h.app h'
  rwa [← List.drop_drop, List.take_append_drop] at this
theorem one_end {cs : List Value} {o : Nat} (h : cs.length = o) : OneAll (cs.drop o) := by rw [← h, List.drop_length]; intro x hx; simp at hx
section
variable {H : Type} {enc : TypeId × Value → H} {P : Program} {w : World} {base : Nat} {spare : Nat → Bool} {held : Bool}
theorem opens_strz {t : TypeId} {fuel : Nat} (ht : P.underlying t = some .string) : Opens enc P w base spare held t (fun s : ByteArray => [.lit (.string s)]) (fun s => s.size + 1) fuel := by
  intro cs x h
  obtain ⟨i, rfl, rfl, _⟩ := DataW.trod_string ht h
  exact ⟨i, by simp [RTs, RT], fun u hu => by simp at hu; subst hu; rfl, by simp [Rows.uptoBulk]⟩
theorem cn_int : Try.prog.cellsOf 3 = 1 := by kernel_rfl
theorem cn_str : Try.prog.cellsOf 9 = 1 := by kernel_rfl
theorem cn_Y : Try.prog.cellsOf 32 = 3 := by kernel_rfl
theorem opensY : ∀ fuel, Opens enc Try.prog w base spare held 32 Y.ts Y.size fuel := by
  intro fuel
  induction fuel using Nat.strongRecOn with
  | _ fuel ih =>
    intro cs x h
    obtain ⟨ys, n, hn, rfl, hlen, hyl, hf⟩ := DataW.trod_struct Try.underlying32 h
    rw [cn_Y] at hlen
    obtain ⟨y0, y1, y2, rfl⟩ := listN3 hyl
    have f0 : DataW.trod enc Try.prog w base spare held n 3 ((cs.drop 0).take (Try.prog.cellsOf 3)) = some y0 := hf 0 _ rfl
    have f1 : DataW.trod enc Try.prog w base spare held n 9 ((cs.drop 1).take (Try.prog.cellsOf 9)) = some y1 := hf 1 _ rfl
    have f2 : DataW.trod enc Try.prog w base spare held n 30 ((cs.drop 2).take (Try.prog.cellsOf 30)) = some y2 := hf 2 _ rfl
    rw [cn_int] at f0
    rw [cn_str] at f1
    rw [show Try.prog.cellsOf 30 = 1 by kernel_rfl] at f2
    obtain ⟨a0, r0, o0, -⟩ := opens_int Try.underlying3 _ _ f0
    obtain ⟨a1, r1, o1, m1⟩ := opens_strz Try.underlying9 _ _ f1
    obtain ⟨a2, r2, o2, m2⟩ := opens_slice Y.ts Y.size 3 (by omega) Y.ts_len Try.underlying30 cn_Y (fun m hm => ih m (by omega)) _ _ f2
    refine ⟨.mk a0 a1 a2, ?_, ?_, ?_⟩
    · have := rts_seg r0 (rts_seg r1 (rts_seg r2 (rts_end hlen)))
      simpa [Y.ts, Y.all_eq] using this
    · have := one_seg o0 (one_seg o1 (one_seg o2 (one_end hlen)))
      simpa using this
    · simp only [Y.size, Y.sizes_sum, List.map_cons, List.map_nil, Rows.uptoBulk, Rows.uptoBulkAll] at m1 m2 ⊢
      omega
end
end Go.Proofs.Ytmdmgpnaiknlaaa
