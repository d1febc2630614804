/-
  Texts of this proof, part 10: Tzg Tzh.
-/
import Derived.Test.YtllgibfmddihgaaDoorQKindSays9
import Derived.Laws.StructEq
import Derived.Lib.AppendStr
import Derived.Lib.MinMax
namespace Go.Proofs.YtllgibfmddihgaaDoor
open Go.RowKit
/-- the first error -/
def firstP : List (Int × Int) → Int × Int
  | [] => (0, 0)
  | e :: r => bif decide (e.1 = 0) then firstP r else e
def selfS : ByteArray := ⟨#[115, 101, 108, 102]⟩
def mkE (ds : List Da) (ps : List ByteArray) (m : Mk) : Int × Int := (Y.errs ds ps m.args, 0)
def daE (ds : List Da) (d : Da) : List (Int × Int) := d.makes.map (mkE ds d.params)
def sfE (ds : List Da) (f : Fu) : Int × Int := funP ds ([selfS] ++ f.params) f
def trE (ds : List Da) (t : Tr) : List (Int × Int) := t.funcs.map (sfE ds)
def fuE (ds : List Da) (f : Fu) : Int × Int := funP ds f.params f
def acE (ds : List Da) (a : Ac) : List (Int × Int) := [(Y.errs ds [] a.types, 0), (a.msg.err ds [], 0), bodyP ds [] a.body.walk]
/-- what is wrong with a program's types -/
def Pr.kinds (p : Pr) : Int × Int := firstP (p.datas.flatMap (daE p.datas) ++ (p.traits.flatMap (trE p.datas) ++ (p.funs.map (fuE p.datas) ++ (p.actors.flatMap (acE p.datas) ++ []))))
theorem drop_cons {α : Type} {l : List α} {k : Nat} {a : α} (h : l[k]? = some a) : l.drop k = a :: l.drop (k + 1) := by
  obtain ⟨h1, rfl⟩ := List.getElem?_eq_some_iff.1 h
  exact List.drop_eq_getElem_cons h1
theorem firstP_no {e : Int × Int} {r : List (Int × Int)} {P : Int × Int} (h : firstP (e :: r) = P) (d : decide (e.1 = 0) = false) : e = P := by rw [firstP, d] at h; exact h
theorem firstP_go {e : Int × Int} {r : List (Int × Int)} {P : Int × Int} (h : firstP (e :: r) = P) (d : decide (e.1 = 0) = true) : firstP r = P := by rw [firstP, d] at h; exact h
theorem funs_mass (p : Pr) (hp : p.mass ≤ 1048576) : ∀ f ∈ p.funs, f.mass + 1 ≤ 1048576 := by
  intro f hf
  unfold Pr.mass at hp
  rcases List.mem_append.1 hf with h | h
  · obtain ⟨i, hi, hfi⟩ := List.mem_flatMap.1 h
    have h1 := sum_mem' Im.mass hi
    have h2 := sum_mem' Fu.mass hfi
    have h3 : i.mass = (i.trait.size + 1) + (i.dat.size + 1) + ((i.funcs.map Fu.mass).sum + 1) := rfl
    omega
  · have h1 := sum_mem' Fu.mass h
    omega
theorem trs_mass (p : Pr) (hp : p.mass ≤ 1048576) : ∀ t ∈ p.traits, ∀ f ∈ t.funcs, f.mass + 1 ≤ 1048576 := by
  intro t ht f hf
  unfold Pr.mass at hp
  have h1 := sum_mem' Tr.mass ht
  have h2 := sum_mem' Fu.mass hf
  have h3 : t.mass = (t.name.size + 1) + ((t.funcs.map Fu.mass).sum + 1) := rfl
  omega
theorem das_mass (p : Pr) (hp : p.mass ≤ 1048576) : ∀ d ∈ p.datas, ∀ m ∈ d.makes, (m.args.map Y.mass).sum ≤ 1048576 := by
  intro d hd m hm
  unfold Pr.mass at hp
  have h1 := sum_mem' Da.mass hd
  have h2 := sum_mem' Mk.mass hm
  have h3 : d.mass = (d.name.size + 1) + (strSize d.params + 1) + ((d.makes.map Mk.mass).sum + 1) := rfl
  have h4 : m.mass = (m.name.size + 1) + ((m.args.map Y.mass).sum + 1) := rfl
  omega
theorem acs_mass (p : Pr) (hp : p.mass ≤ 1048576) : ∀ a ∈ p.actors, (a.types.map Y.mass).sum + a.msg.mass + a.body.mass ≤ 1048576 := by
  intro a ha
  unfold Pr.mass at hp
  have h1 := sum_mem' Ac.mass ha
  have h3 : a.mass = (a.name.size + 1) + (strSize a.names + 1) + ((a.types.map Y.mass).sum + 1) + a.msg.mass + a.body.mass := rfl
  omega
set_option maxRecDepth 100000 in
set_option maxHeartbeats 2000000 in
theorem kindsOf_af (p : Pr) (hp : p.mass ≤ 1048576) : AF Tryd.prog 26 [p.t] (· = wr p.kinds) := by
  have hdl : p.datas.length ≤ 1048576 := by
    have h1 := len_sum' Da.mass Da.mass_pos p.datas
    unfold Pr.mass at hp
    omega
  have hda := fun d (hd : d ∈ p.datas) m (hm : m ∈ d.makes) => kindOf_af p hdl d.params m.args (das_mass p hp d hd m hm)
  have htr := fun t (ht : t ∈ p.traits) f (hf : f ∈ t.funcs) => kindFun_af p hdl [selfS] f (by have := trs_mass p hp t ht f hf; simp; omega)
  have hfu : ∀ f ∈ p.funs, AF Tryd.prog 121 [p.t, strRow [], f.t] (· = wr (funP p.datas f.params f)) := fun f hf => kindFun_af p hdl [] f (by have := funs_mass p hp f hf; simp; omega)
  have ha0 := fun a (ha : a ∈ p.actors) => catY2_af a.types [a.msg] (by have h1 := acs_mass p hp a ha; have h2 := len_sum' Y.mass Y.mass_pos a.types; have h3 := a.msg.mass_pos; simp; omega)
  have ha1 := fun a (ha : a ∈ p.actors) => kindOf_af p hdl [] (a.types ++ [a.msg]) (by have := acs_mass p hp a ha; rw [List.map_append, List.sum_append]; simp; omega)
  simp only [errs_app, errs_one] at ha1
  have ha3 := fun a (ha : a ∈ p.actors) => kindBody_af p hdl [] a.body (by have := acs_mass p hp a ha; omega)
  have hfl : p.funs.length ≤ 1048576 := by
    have h0 := p.bodies_le
    unfold Pr.bodies at h0
    rw [List.length_append, List.length_map] at h0
    omega
  have hfo := funsOf_af p hfl
  generalize hP : p.kinds = P
  unfold Pr.kinds at hP
  clear hp
  obtain ⟨nm, vr, us, ds, trs, ims, fus, acs⟩ := p
  dsimp only at *
  refine af_enter tok Tryd.func26 Tryd.ntmps26 Tryd.results26 rfl (by kernel_rfl) rfl rfl fun F hX => ?_
  repeat (first | refine gG ?_ | refine zN1 (fun hlen => ?_) | refine zN2 (fun hlen => ?_) | refine zAl (fun _ => ?_) | refine zBf ?_)
  rename_i b2
  refine x_loop [4, 6, 7, 23, 24, 25, 26, 27, 28, 29, 30, 31, 32, 33, 34, 35, 36, 37, 38, 39, 40, 41, 42, 43, 44, 45] (fun k : Nat => [(23, .c (.lit (.int .i64 (k : Nat))))]) (fun _ => [.box b2 74 [.c (.lit (.int .i64 0)), .c (.lit (.int .i64 0))]]) (fun k => k ≤ ds.length ∧ firstP ((ds.drop k).flatMap (daE ds) ++ (trs.flatMap (trE ds) ++ ((Pr.funs ⟨nm, vr, us, ds, trs, ims, fus, acs⟩).map (fuE ds) ++ (acs.flatMap (acE ds) ++ [])))) = P) (fun k => ds.length - k) 0 ⟨Nat.zero_le _, hP⟩ ⟨rfl, trivial⟩ rfl ?_
  clear hP
  rintro k ⟨hk, hb⟩
  repeat (first | refine gG ?_ | refine zN1 (fun hlen => ?_) | refine zN2 (fun hlen => ?_) | refine zAl (fun _ => ?_) | refine zBx (fun _ => ?_))
  refine x_cond rfl (fun h => ?_) (fun h => ?_)
  · have hk' : k < ds.length := by simpa using h
    obtain ⟨a, ha⟩ := nth hk'
    have hat := Da.at ha
    have hma := hda a (List.mem_of_getElem? ha)
    rw [drop_cons ha, List.flatMap_cons, List.append_assoc] at hb
    clear h ha
    generalize hR : (ds.drop (k + 1)).flatMap (daE ds) ++ (trs.flatMap (trE ds) ++ ((Pr.funs ⟨nm, vr, us, ds, trs, ims, fus, acs⟩).map (fuE ds) ++ (acs.flatMap (acE ds) ++ []))) = R at *
    obtain ⟨dn, dps, mks⟩ := a
    dsimp only [daE] at hb hma
    repeat (first | refine gG ?_ | refine zN1 (fun hlen => ?_) | refine zN2 (fun hlen => ?_) | refine zAl (fun _ => ?_) | refine zBx (fun _ => ?_))
    refine zIx (k) (hk') ?_
    repeat (first | refine gG ?_ | refine zN1 (fun hlen => ?_) | refine zN2 (fun hlen => ?_) | refine zAl (fun _ => ?_) | refine zBx (fun _ => ?_))
    refine zEl (hat) (Da.ts_len _) ?_
    repeat (first | refine gG ?_ | refine zN1 (fun hlen => ?_) | refine zN2 (fun hlen => ?_) | refine zAl (fun _ => ?_) | refine zBx (fun _ => ?_))
    rename_i b6
    refine x_loop [6, 7, 30, 31, 32, 33, 34, 35, 36, 37, 38, 39, 40, 41, 42, 43, 44] (fun j : Nat => [(30, .c (.lit (.int .i64 (j : Nat))))]) (fun _ => [.box b2 74 [.c (.lit (.int .i64 0)), .c (.lit (.int .i64 0))], .box b6 55 [.c (.lit (.string dn)), .c (strRow dps), .c (Mk.row mks)]]) (fun j => j ≤ mks.length ∧ firstP ((mks.drop j).map (mkE ds dps) ++ R) = P) (fun j => mks.length - j) 0 ⟨Nat.zero_le _, hb⟩ ⟨rfl, trivial⟩ rfl ?_
    clear hb
    rintro j ⟨hj, hc⟩
    repeat (first | refine gG ?_ | refine zN1 (fun hlen => ?_) | refine zN2 (fun hlen => ?_) | refine zAl (fun _ => ?_) | refine zBx (fun _ => ?_))
    refine x_cond rfl (fun h => ?_) (fun h => ?_)
    · have hj' : j < mks.length := by simpa using h
      obtain ⟨m, hm⟩ := nth hj'
      have hat2 := Mk.at hm
      have hca := hma m (List.mem_of_getElem? hm)
      rw [drop_cons hm, List.map_cons, List.cons_append] at hc
      clear h hm hma
      dsimp only [mkE] at hc
      generalize Y.errs ds dps m.args = e at *
      obtain ⟨mn, mas⟩ := m
      cases d : decide (e = 0)
      · replace hc := firstP_no hc d
        repeat (first | refine gG ?_ | refine zN1 (fun hlen => ?_) | refine zN2 (fun hlen => ?_) | refine zAl (fun _ => ?_) | refine zBx (fun _ => ?_))
        refine zIx (j) (hj') ?_
        repeat (first | refine gG ?_ | refine zN1 (fun hlen => ?_) | refine zN2 (fun hlen => ?_) | refine zAl (fun _ => ?_) | refine zBx (fun _ => ?_))
        refine zEl (hat2) (Mk.ts_len _) ?_
        repeat (first | refine gG ?_ | refine zN1 (fun hlen => ?_) | refine zN2 (fun hlen => ?_) | refine zAl (fun _ => ?_) | refine zBx (fun _ => ?_))
        refine zCall (hca) ?_
        rintro _ rfl
        clear hca
        repeat (first | refine gG ?_ | refine zN1 (fun hlen => ?_) | refine zN2 (fun hlen => ?_) | refine zAl (fun _ => ?_) | refine zBx (fun _ => ?_))
        first | refine zR ?_ | refine zQ ?_
        rw [← hc]; rfl
      · replace hc := firstP_go hc d
        have d' := d
        repeat (first | refine gG ?_ | refine zN1 (fun hlen => ?_) | refine zN2 (fun hlen => ?_) | refine zAl (fun _ => ?_) | refine zBx (fun _ => ?_))
        refine zIx (j) (hj') ?_
        repeat (first | refine gG ?_ | refine zN1 (fun hlen => ?_) | refine zN2 (fun hlen => ?_) | refine zAl (fun _ => ?_) | refine zBx (fun _ => ?_))
        refine zEl (hat2) (Mk.ts_len _) ?_
        repeat (first | refine gG ?_ | refine zN1 (fun hlen => ?_) | refine zN2 (fun hlen => ?_) | refine zAl (fun _ => ?_) | refine zBx (fun _ => ?_))
        refine zCall (hca) ?_
        rintro _ rfl
        clear hca
        repeat (first | refine gG ?_ | refine zN1 (fun hlen => ?_) | refine zN2 (fun hlen => ?_) | refine zAl (fun _ => ?_) | refine zBx (fun _ => ?_))
        exact ⟨j + 1, ⟨hj', hc⟩, by omega, x_wkd 2 ⟨rfl, trivial⟩ rfl (by repeat (first | exact ag_refl | refine ag_upd rfl ?_ | refine ag_at rfl rfl ?_))⟩
    · have hj' : j = mks.length := by
        have : ¬ j < mks.length := by simpa using h
        omega
      subst hj'
      clear h hma
      rw [List.drop_length, List.map_nil, List.nil_append] at hc
      repeat (first | refine gG ?_ | refine zN1 (fun hlen => ?_) | refine zN2 (fun hlen => ?_) | refine zAl (fun _ => ?_) | refine zBx (fun _ => ?_))
      exact ⟨k + 1, ⟨hk', by rw [hR]; exact hc⟩, by omega, x_wkd 1 ⟨rfl, trivial⟩ rfl (by repeat (first | exact ag_refl | refine ag_upd rfl ?_ | refine ag_at rfl rfl ?_))⟩
  have hk' : k = ds.length := by
    have : ¬ k < ds.length := by simpa using h
    omega
  subst hk'
  clear h hda hk
  rw [List.drop_length, List.flatMap_nil, List.nil_append] at hb
  have hP := hb
  clear hb
  repeat (first | refine gG ?_ | refine zN1 (fun hlen => ?_) | refine zN2 (fun hlen => ?_) | refine zAl (fun _ => ?_) | refine zBx (fun _ => ?_))
  refine x_loop [9, 11, 12, 49, 50, 51, 52, 53, 54, 55, 56, 57, 58, 59, 60, 61, 62, 63, 64, 65, 66, 67, 68, 69] (fun k : Nat => [(49, .c (.lit (.int .i64 (k : Nat))))]) (fun _ => [.box b2 74 [.c (.lit (.int .i64 0)), .c (.lit (.int .i64 0))]]) (fun k => k ≤ trs.length ∧ firstP ((trs.drop k).flatMap (trE ds) ++ ((Pr.funs ⟨nm, vr, us, ds, trs, ims, fus, acs⟩).map (fuE ds) ++ (acs.flatMap (acE ds) ++ []))) = P) (fun k => trs.length - k) 0 ⟨Nat.zero_le _, hP⟩ ⟨rfl, trivial⟩ rfl ?_
  clear hP
  rintro k ⟨hk, hb⟩
  repeat (first | refine gG ?_ | refine zN1 (fun hlen => ?_) | refine zN2 (fun hlen => ?_) | refine zAl (fun _ => ?_) | refine zBx (fun _ => ?_))
  refine x_cond rfl (fun h => ?_) (fun h => ?_)
  · have hk' : k < trs.length := by simpa using h
    obtain ⟨a, ha⟩ := nth hk'
    have hat := Tr.at ha
    have hma := htr a (List.mem_of_getElem? ha)
    rw [drop_cons ha, List.flatMap_cons, List.append_assoc] at hb
    clear h ha
    generalize hR : (trs.drop (k + 1)).flatMap (trE ds) ++ ((Pr.funs ⟨nm, vr, us, ds, trs, ims, fus, acs⟩).map (fuE ds) ++ (acs.flatMap (acE ds) ++ [])) = R at *
    obtain ⟨tn, tfs⟩ := a
    dsimp only [trE] at hb hma
    repeat (first | refine gG ?_ | refine zN1 (fun hlen => ?_) | refine zN2 (fun hlen => ?_) | refine zAl (fun _ => ?_) | refine zBx (fun _ => ?_))
    refine zIx (k) (hk') ?_
    repeat (first | refine gG ?_ | refine zN1 (fun hlen => ?_) | refine zN2 (fun hlen => ?_) | refine zAl (fun _ => ?_) | refine zBx (fun _ => ?_))
    refine zEl (hat) (Tr.ts_len _) ?_
    repeat (first | refine gG ?_ | refine zN1 (fun hlen => ?_) | refine zN2 (fun hlen => ?_) | refine zAl (fun _ => ?_) | refine zBx (fun _ => ?_))
    rename_i b6
    refine x_loop [11, 12, 56, 57, 58, 59, 60, 61, 62, 63, 64, 65, 66, 67, 68] (fun j : Nat => [(56, .c (.lit (.int .i64 (j : Nat))))]) (fun _ => [.box b2 74 [.c (.lit (.int .i64 0)), .c (.lit (.int .i64 0))], .box b6 58 [.c (.lit (.string tn)), .c (Fu.row tfs)]]) (fun j => j ≤ tfs.length ∧ firstP ((tfs.drop j).map (sfE ds) ++ R) = P) (fun j => tfs.length - j) 0 ⟨Nat.zero_le _, hb⟩ ⟨rfl, trivial⟩ rfl ?_
    clear hb
    rintro j ⟨hj, hc⟩
    repeat (first | refine gG ?_ | refine zN1 (fun hlen => ?_) | refine zN2 (fun hlen => ?_) | refine zAl (fun _ => ?_) | refine zBx (fun _ => ?_))
    refine x_cond rfl (fun h => ?_) (fun h => ?_)
    · have hj' : j < tfs.length := by simpa using h
      obtain ⟨m, hm⟩ := nth hj'
      have hat2 := Fu.at hm
      have hca := hma m (List.mem_of_getElem? hm)
      rw [drop_cons hm, List.map_cons, List.cons_append] at hc
      clear h hm hma
      dsimp only [sfE] at hc
      generalize funP ds _ m = e at *
      obtain ⟨e1, e2⟩ := e
      dsimp only [wr] at hca
      obtain ⟨fnm, fpa, fna, fty, ⟨ok, on, oa⟩, ⟨kb, nb, tb, nsb, ysb, lb, rsb, pb⟩⟩ := m
      cases d : decide (e1 = 0)
      · replace hc := firstP_no hc d
        repeat (first | refine gG ?_ | refine zN1 (fun hlen => ?_) | refine zN2 (fun hlen => ?_) | refine zAl (fun _ => ?_) | refine zBx (fun _ => ?_))
        refine zIx (j) (hj') ?_
        repeat (first | refine gG ?_ | refine zN1 (fun hlen => ?_) | refine zN2 (fun hlen => ?_) | refine zAl (fun _ => ?_) | refine zBx (fun _ => ?_))
        refine zEl (hat2) (Fu.ts_len _) ?_
        repeat (first | refine gG ?_ | refine zN1 (fun hlen => ?_) | refine zN2 (fun hlen => ?_) | refine zAl (fun _ => ?_) | refine zBx (fun _ => ?_))
        refine zCall (hca) ?_
        rintro _ rfl
        clear hca
        repeat (first | refine gG ?_ | refine zN1 (fun hlen => ?_) | refine zN2 (fun hlen => ?_) | refine zAl (fun _ => ?_) | refine zBx (fun _ => ?_))
        first | refine zR ?_ | refine zQ ?_
        rw [← hc]; rfl
      · replace hc := firstP_go hc d
        have d' := d
        repeat (first | refine gG ?_ | refine zN1 (fun hlen => ?_) | refine zN2 (fun hlen => ?_) | refine zAl (fun _ => ?_) | refine zBx (fun _ => ?_))
        refine zIx (j) (hj') ?_
        repeat (first | refine gG ?_ | refine zN1 (fun hlen => ?_) | refine zN2 (fun hlen => ?_) | refine zAl (fun _ => ?_) | refine zBx (fun _ => ?_))
        refine zEl (hat2) (Fu.ts_len _) ?_
        repeat (first | refine gG ?_ | refine zN1 (fun hlen => ?_) | refine zN2 (fun hlen => ?_) | refine zAl (fun _ => ?_) | refine zBx (fun _ => ?_))
        refine zCall (hca) ?_
        rintro _ rfl
        clear hca
        repeat (first | refine gG ?_ | refine zN1 (fun hlen => ?_) | refine zN2 (fun hlen => ?_) | refine zAl (fun _ => ?_) | refine zBx (fun _ => ?_))
        exact ⟨j + 1, ⟨hj', hc⟩, by omega, x_wkd 2 ⟨rfl, trivial⟩ rfl (by repeat (first | exact ag_refl | refine ag_upd rfl ?_ | refine ag_at rfl rfl ?_))⟩
    · have hj' : j = tfs.length := by
        have : ¬ j < tfs.length := by simpa using h
        omega
      subst hj'
      clear h hma
      rw [List.drop_length, List.map_nil, List.nil_append] at hc
      repeat (first | refine gG ?_ | refine zN1 (fun hlen => ?_) | refine zN2 (fun hlen => ?_) | refine zAl (fun _ => ?_) | refine zBx (fun _ => ?_))
      exact ⟨k + 1, ⟨hk', by rw [hR]; exact hc⟩, by omega, x_wkd 1 ⟨rfl, trivial⟩ rfl (by repeat (first | exact ag_refl | refine ag_upd rfl ?_ | refine ag_at rfl rfl ?_))⟩
  have hk' : k = trs.length := by
    have : ¬ k < trs.length := by simpa using h
    omega
  subst hk'
  clear h htr hk
  rw [List.drop_length, List.flatMap_nil, List.nil_append] at hb
  have hP := hb
  clear hb
  repeat (first | refine gG ?_ | refine zN1 (fun hlen => ?_) | refine zN2 (fun hlen => ?_) | refine zAl (fun _ => ?_) | refine zBx (fun _ => ?_))
  refine zCall (hfo) ?_
  rintro _ rfl
  clear hfo
  generalize Pr.funs ⟨nm, vr, us, ds, trs, ims, fus, acs⟩ = fl at *
  repeat (first | refine gG ?_ | refine zN1 (fun hlen => ?_) | refine zN2 (fun hlen => ?_) | refine zAl (fun _ => ?_) | refine zBx (fun _ => ?_))
  refine x_loop [14, 15, 73, 74, 75, 76, 77, 78, 79, 80, 81, 82, 83, 84] (fun k : Nat => [(73, .c (.lit (.int .i64 (k : Nat))))]) (fun _ => [.box b2 74 [.c (.lit (.int .i64 0)), .c (.lit (.int .i64 0))]]) (fun k => k ≤ fl.length ∧ firstP ((fl.drop k).map (fuE ds) ++ (acs.flatMap (acE ds) ++ [])) = P) (fun k => fl.length - k) 0 ⟨Nat.zero_le _, hP⟩ ⟨rfl, trivial⟩ rfl ?_
  clear hP
  rintro k ⟨hk, hb⟩
  repeat (first | refine gG ?_ | refine zN1 (fun hlen => ?_) | refine zN2 (fun hlen => ?_) | refine zAl (fun _ => ?_) | refine zBx (fun _ => ?_))
  refine x_cond rfl (fun h => ?_) (fun h => ?_)
  · have hk' : k < fl.length := by simpa using h
    obtain ⟨a, ha⟩ := nth hk'
    have hat := Fu.at ha
    have hca := hfu a (List.mem_of_getElem? ha)
    rw [drop_cons ha, List.map_cons, List.cons_append] at hb
    clear h ha hfu
    dsimp only [fuE] at hb
    generalize funP ds _ a = e at *
    obtain ⟨e1, e2⟩ := e
    dsimp only [wr] at hca
    obtain ⟨fnm, fpa, fna, fty, ⟨ok, on, oa⟩, ⟨kb, nb, tb, nsb, ysb, lb, rsb, pb⟩⟩ := a
    cases d : decide (e1 = 0)
    · replace hb := firstP_no hb d
      repeat (first | refine gG ?_ | refine zN1 (fun hlen => ?_) | refine zN2 (fun hlen => ?_) | refine zAl (fun _ => ?_) | refine zBx (fun _ => ?_))
      refine zIx (k) (hk') ?_
      repeat (first | refine gG ?_ | refine zN1 (fun hlen => ?_) | refine zN2 (fun hlen => ?_) | refine zAl (fun _ => ?_) | refine zBx (fun _ => ?_))
      refine zEl (hat) (Fu.ts_len _) ?_
      repeat (first | refine gG ?_ | refine zN1 (fun hlen => ?_) | refine zN2 (fun hlen => ?_) | refine zAl (fun _ => ?_) | refine zBx (fun _ => ?_))
      refine zCall (hca) ?_
      rintro _ rfl
      clear hca
      repeat (first | refine gG ?_ | refine zN1 (fun hlen => ?_) | refine zN2 (fun hlen => ?_) | refine zAl (fun _ => ?_) | refine zBx (fun _ => ?_))
      first | refine zR ?_ | refine zQ ?_
      rw [← hb]; rfl
    · replace hb := firstP_go hb d
      have d' := d
      repeat (first | refine gG ?_ | refine zN1 (fun hlen => ?_) | refine zN2 (fun hlen => ?_) | refine zAl (fun _ => ?_) | refine zBx (fun _ => ?_))
      refine zIx (k) (hk') ?_
      repeat (first | refine gG ?_ | refine zN1 (fun hlen => ?_) | refine zN2 (fun hlen => ?_) | refine zAl (fun _ => ?_) | refine zBx (fun _ => ?_))
      refine zEl (hat) (Fu.ts_len _) ?_
      repeat (first | refine gG ?_ | refine zN1 (fun hlen => ?_) | refine zN2 (fun hlen => ?_) | refine zAl (fun _ => ?_) | refine zBx (fun _ => ?_))
      refine zCall (hca) ?_
      rintro _ rfl
      clear hca
      repeat (first | refine gG ?_ | refine zN1 (fun hlen => ?_) | refine zN2 (fun hlen => ?_) | refine zAl (fun _ => ?_) | refine zBx (fun _ => ?_))
      exact ⟨k + 1, ⟨hk', hb⟩, by omega, x_wkd 1 ⟨rfl, trivial⟩ rfl (by repeat (first | exact ag_refl | refine ag_upd rfl ?_ | refine ag_at rfl rfl ?_))⟩
  have hk' : k = fl.length := by
    have : ¬ k < fl.length := by simpa using h
    omega
  subst hk'
  clear h hfu hk
  rw [List.drop_length, List.map_nil, List.nil_append] at hb
  have hP := hb
  clear hb
  repeat (first | refine gG ?_ | refine zN1 (fun hlen => ?_) | refine zN2 (fun hlen => ?_) | refine zAl (fun _ => ?_) | refine zBx (fun _ => ?_))
  refine x_loop [17, 18, 19, 88, 89, 90, 91, 92, 93, 94, 95, 96, 97, 98, 99, 100, 101, 102, 103, 104, 105, 106, 107, 108, 109, 110, 111, 112, 113] (fun k : Nat => [(88, .c (.lit (.int .i64 (k : Nat))))]) (fun _ => [.box b2 74 [.c (.lit (.int .i64 0)), .c (.lit (.int .i64 0))]]) (fun k => k ≤ acs.length ∧ firstP ((acs.drop k).flatMap (acE ds) ++ []) = P) (fun k => acs.length - k) 0 ⟨Nat.zero_le _, hP⟩ ⟨rfl, trivial⟩ rfl ?_
  clear hP
  rintro k ⟨hk, hb⟩
  repeat (first | refine gG ?_ | refine zN1 (fun hlen => ?_) | refine zN2 (fun hlen => ?_) | refine zAl (fun _ => ?_) | refine zBx (fun _ => ?_))
  refine x_cond rfl (fun h => ?_) (fun h => ?_)
  rotate_left
  · have hk' : k = acs.length := by
      have : ¬ k < acs.length := by simpa using h
      omega
    subst hk'
    clear h ha0 ha1 ha3
    rw [List.drop_length] at hb
    repeat (first | refine gG ?_ | refine zN1 (fun hlen => ?_) | refine zN2 (fun hlen => ?_) | refine zAl (fun _ => ?_) | refine zBx (fun _ => ?_))
    first | refine zR ?_ | refine zQ ?_
    rw [← hb]; rfl
  have hk' : k < acs.length := by simpa using h
  obtain ⟨a, ha⟩ := nth hk'
  have hat := Ac.at ha
  have hmem := List.mem_of_getElem? ha
  have h0 := ha0 a hmem
  have h1 := ha1 a hmem
  have h3 := ha3 a hmem
  rw [drop_cons ha, List.flatMap_cons, List.append_assoc] at hb
  clear h ha hmem ha0 ha1 ha3
  dsimp only [acE] at hb
  generalize Y.errs ds [] a.types = e1 at *
  generalize Y.err ds [] a.msg = e2 at *
  generalize bodyP ds [] a.body.walk = e3 at *
  obtain ⟨e3, e4⟩ := e3
  simp only [List.cons_append, List.nil_append] at hb
  dsimp only [wr] at h3
  generalize hty : a.types ++ [a.msg] = tyl at *
  obtain ⟨an, ans, ats, ⟨mk, mn, ma⟩, ⟨kb, nb, tb, nsb, ysb, lb, rsb, pb⟩⟩ := a
  dsimp only at h0 h1 h3
  cases d1 : decide (e1 = 0)
  · replace hb := firstP_no hb d1
    rw [d1] at h1
    simp only [cond] at h1
    clear h3
    repeat (first | refine gG ?_ | refine zN1 (fun hlen => ?_) | refine zN2 (fun hlen => ?_) | refine zAl (fun _ => ?_) | refine zBx (fun _ => ?_))
    refine zIx (k) (hk') ?_
    repeat (first | refine gG ?_ | refine zN1 (fun hlen => ?_) | refine zN2 (fun hlen => ?_) | refine zAl (fun _ => ?_) | refine zBx (fun _ => ?_))
    refine zEl (hat) (Ac.ts_len _) ?_
    repeat (first | refine gG ?_ | refine zN1 (fun hlen => ?_) | refine zN2 (fun hlen => ?_) | refine zAl (fun _ => ?_) | refine zBx (fun _ => ?_))
    refine ac_draw [1, 1, 1, 1, 1, 1, 1, 1, 1, 1] [0, 1, 2, 3, 4, 5, 6, 7, 8, 9] (by kernel_rfl) (by kernel_rfl) ?_
    refine gW ?_
    apply w_q; (focus exact rfl); (focus exact rfl); focus (intro _; (refine zCall h0 ?_; rintro _ rfl); exact det_refl)
    apply w_q; (focus exact rfl); (focus exact rfl); focus (intro _; (refine zCall h1 ?_; rintro _ rfl); exact det_refl)
    refine gW ?_
    refine w_nil ?_
    clear h0 h1
    repeat (first | refine gG ?_ | refine zN1 (fun hlen => ?_) | refine zN2 (fun hlen => ?_) | refine zAl (fun _ => ?_) | refine zBx (fun _ => ?_))
    first | refine zR ?_ | refine zQ ?_
    rw [← hb]; rfl

  replace hb := firstP_go hb d1
  rw [d1] at h1
  simp only [cond] at h1
  cases d2 : decide (e2 = 0)
  · replace hb := firstP_no hb d2
    clear h3
    repeat (first | refine gG ?_ | refine zN1 (fun hlen => ?_) | refine zN2 (fun hlen => ?_) | refine zAl (fun _ => ?_) | refine zBx (fun _ => ?_))
    refine zIx (k) (hk') ?_
    repeat (first | refine gG ?_ | refine zN1 (fun hlen => ?_) | refine zN2 (fun hlen => ?_) | refine zAl (fun _ => ?_) | refine zBx (fun _ => ?_))
    refine zEl (hat) (Ac.ts_len _) ?_
    repeat (first | refine gG ?_ | refine zN1 (fun hlen => ?_) | refine zN2 (fun hlen => ?_) | refine zAl (fun _ => ?_) | refine zBx (fun _ => ?_))
    refine ac_draw [1, 1, 1, 1, 1, 1, 1, 1, 1, 1] [0, 1, 2, 3, 4, 5, 6, 7, 8, 9] (by kernel_rfl) (by kernel_rfl) ?_
    refine gW ?_
    apply w_q; (focus exact rfl); (focus exact rfl); focus (intro _; (refine zCall h0 ?_; rintro _ rfl); exact det_refl)
    apply w_q; (focus exact rfl); (focus exact rfl); focus (intro _; (refine zCall h1 ?_; rintro _ rfl); exact det_refl)
    refine gW ?_
    refine w_nil ?_
    clear h0 h1
    repeat (first | refine gG ?_ | refine zN1 (fun hlen => ?_) | refine zN2 (fun hlen => ?_) | refine zAl (fun _ => ?_) | refine zBx (fun _ => ?_))
    first | refine zR ?_ | refine zQ ?_
    rw [← hb]; rfl

  replace hb := firstP_go hb d2
  cases d3 : decide (e3 = 0)
  · replace hb := firstP_no hb d3
    repeat (first | refine gG ?_ | refine zN1 (fun hlen => ?_) | refine zN2 (fun hlen => ?_) | refine zAl (fun _ => ?_) | refine zBx (fun _ => ?_))
    refine zIx (k) (hk') ?_
    repeat (first | refine gG ?_ | refine zN1 (fun hlen => ?_) | refine zN2 (fun hlen => ?_) | refine zAl (fun _ => ?_) | refine zBx (fun _ => ?_))
    refine zEl (hat) (Ac.ts_len _) ?_
    repeat (first | refine gG ?_ | refine zN1 (fun hlen => ?_) | refine zN2 (fun hlen => ?_) | refine zAl (fun _ => ?_) | refine zBx (fun _ => ?_))
    refine ac_draw [1, 1, 1, 1, 1, 1, 1, 1, 1, 1] [0, 1, 2, 3, 4, 5, 6, 7, 8, 9] (by kernel_rfl) (by kernel_rfl) ?_
    refine gW ?_
    apply w_q; (focus exact rfl); (focus exact rfl); focus (intro _; (refine zCall h0 ?_; rintro _ rfl); exact det_refl)
    apply w_q; (focus exact rfl); (focus exact rfl); focus (intro _; (refine zCall h1 ?_; rintro _ rfl); exact det_refl)
    refine gW ?_
    refine w_nil ?_
    clear h0 h1
    repeat (first | refine gG ?_ | refine zN1 (fun hlen => ?_) | refine zN2 (fun hlen => ?_) | refine zAl (fun _ => ?_) | refine zBx (fun _ => ?_))
    refine zCall (h3) ?_
    rintro _ rfl
    clear h3
    repeat (first | refine gG ?_ | refine zN1 (fun hlen => ?_) | refine zN2 (fun hlen => ?_) | refine zAl (fun _ => ?_) | refine zBx (fun _ => ?_))
    first | refine zR ?_ | refine zQ ?_
    rw [← hb]; rfl

  · replace hb := firstP_go hb d3
    repeat (first | refine gG ?_ | refine zN1 (fun hlen => ?_) | refine zN2 (fun hlen => ?_) | refine zAl (fun _ => ?_) | refine zBx (fun _ => ?_))
    refine zIx (k) (hk') ?_
    repeat (first | refine gG ?_ | refine zN1 (fun hlen => ?_) | refine zN2 (fun hlen => ?_) | refine zAl (fun _ => ?_) | refine zBx (fun _ => ?_))
    refine zEl (hat) (Ac.ts_len _) ?_
    repeat (first | refine gG ?_ | refine zN1 (fun hlen => ?_) | refine zN2 (fun hlen => ?_) | refine zAl (fun _ => ?_) | refine zBx (fun _ => ?_))
    refine ac_draw [1, 1, 1, 1, 1, 1, 1, 1, 1, 1] [0, 1, 2, 3, 4, 5, 6, 7, 8, 9] (by kernel_rfl) (by kernel_rfl) ?_
    refine gW ?_
    apply w_q; (focus exact rfl); (focus exact rfl); focus (intro _; (refine zCall h0 ?_; rintro _ rfl); exact det_refl)
    apply w_q; (focus exact rfl); (focus exact rfl); focus (intro _; (refine zCall h1 ?_; rintro _ rfl); exact det_refl)
    refine gW ?_
    refine w_nil ?_
    clear h0 h1
    repeat (first | refine gG ?_ | refine zN1 (fun hlen => ?_) | refine zN2 (fun hlen => ?_) | refine zAl (fun _ => ?_) | refine zBx (fun _ => ?_))
    refine zCall (h3) ?_
    rintro _ rfl
    clear h3
    repeat (first | refine gG ?_ | refine zN1 (fun hlen => ?_) | refine zN2 (fun hlen => ?_) | refine zAl (fun _ => ?_) | refine zBx (fun _ => ?_))
    exact ⟨k + 1, ⟨hk', hb⟩, by omega, x_wkd 1 ⟨rfl, trivial⟩ rfl (by repeat (first | exact ag_refl | refine ag_upd rfl ?_ | refine ag_at rfl rfl ?_))⟩
end Go.Proofs.YtllgibfmddihgaaDoor
namespace Go.Proofs.YtllgibfmddihgaaDoor
open Go.RowKit
set_option maxRecDepth 100000 in
set_option maxHeartbeats 3000000 in
theorem kindProgram_af (p : Pr) (hp : p.mass ≤ 1048576) : AF Tryd.prog 25 [p.t] (· = .tup [.lit (.int .i64 p.kinds.1), .lit (.int .i64 p.kinds.2)]) := by
  have hdl : p.datas.length ≤ 1048576 := by
    have h1 := len_sum' Da.mass Da.mass_pos p.datas
    unfold Pr.mass at hp
    omega
  have hnc := newChecker_ag p hdl
  have hda := fun es (hck : CkOk p.datas es) b => fun d (hd : d ∈ p.datas) m (hm : m ∈ d.makes) => types_ag p.datas es hck d.params b m.args (das_mass p hp d hd m hm)
  have htr := fun es (hck : CkOk p.datas es) b => fun t (ht : t ∈ p.traits) f (hf : f ∈ t.funcs) => fun v => funcOwn_ag p.datas es hck b v [selfS] (by decide) f (by have := trs_mass p hp t ht f hf; omega)
  have hfu := fun es (hck : CkOk p.datas es) b => fun f (hf : f ∈ p.funs) => funcNil_ag p.datas es hck b f (by have := funs_mass p hp f hf; omega)
  have ha1 := fun es (hck : CkOk p.datas es) b => fun a (ha : a ∈ p.actors) => types_ag p.datas es hck [] b a.types (by have := acs_mass p hp a ha; omega)
  have ha2 := fun es (hck : CkOk p.datas es) b => fun a (ha : a ∈ p.actors) => typ_ag p.datas es hck [] b a.msg (by have := acs_mass p hp a ha; omega)
  have ha3 := fun es (hck : CkOk p.datas es) b => fun a (ha : a ∈ p.actors) => body_ag p.datas es hck [] b a.body (by have := acs_mass p hp a ha; omega)
  have hfl : p.funs.length ≤ 1048576 := by
    have h0 := p.bodies_le
    unfold Pr.bodies at h0
    rw [List.length_append, List.length_map] at h0
    omega
  generalize hP : p.kinds = P
  unfold Pr.kinds at hP
  clear hp
  obtain ⟨nm, vr, us, ds, trs, ims, fus, acs⟩ := p
  dsimp only at *
  refine af_enter tok Tryd.func25 Tryd.ntmps25 Tryd.results25 rfl (by kernel_rfl) rfl rfl fun F hX => ?_
  repeat (first | refine gG ?_ | refine zN1 (fun hlen => ?_) | refine zN2 (fun hlen => ?_) | refine zAl (fun _ => ?_) | refine zBf ?_ | refine zAp (fun _ => ?_))
  refine zCallG [] hnc ?_
  rintro _ _ ⟨b, es, rfl, rfl, hck⟩
  refine ⟨.own 0 (.map (some b)), _, re_own, rfl, rfl, ?_⟩
  replace hda := hda es hck b
  replace htr := htr es hck b
  replace hfu := hfu es hck b
  replace ha1 := ha1 es hck b
  replace ha2 := ha2 es hck b
  replace ha3 := ha3 es hck b
  clear hnc hck
  generalize mkeys Value.string es = M at *
  repeat (first | refine gG ?_ | refine zN1 (fun hlen => ?_) | refine zN2 (fun hlen => ?_) | refine zAl (fun _ => ?_) | refine zBx (fun _ => ?_) | refine zAp (fun _ => ?_))
  refine x_loop [2, 3, 6, 8, 9, 34, 35, 36, 37, 38, 39, 40, 41, 42, 43, 44, 45, 46, 47, 48, 49, 50, 51, 52, 53, 54, 55] (fun k : Nat => [(34, .c (.lit (.int .i64 (k : Nat))))]) (fun _ => [.mp b M]) (fun k => k ≤ ds.length ∧ firstP ((ds.drop k).flatMap (daE ds) ++ (trs.flatMap (trE ds) ++ ((Pr.funs ⟨nm, vr, us, ds, trs, ims, fus, acs⟩).map (fuE ds) ++ (acs.flatMap (acE ds) ++ [])))) = P) (fun k => ds.length - k) 0 ⟨Nat.zero_le _, hP⟩ ⟨rfl, trivial⟩ rfl ?_
  clear hP
  rintro k ⟨hk, hb⟩
  repeat (first | refine gG ?_ | refine zN1 (fun hlen => ?_) | refine zN2 (fun hlen => ?_) | refine zAl (fun _ => ?_) | refine zBx (fun _ => ?_) | refine zAp (fun _ => ?_))
  refine x_cond rfl (fun h => ?_) (fun h => ?_)
  · have hk' : k < ds.length := by simpa using h
    obtain ⟨a, ha⟩ := nth hk'
    have hat := Da.at ha
    have hma := hda a (List.mem_of_getElem? ha)
    rw [drop_cons ha, List.flatMap_cons, List.append_assoc] at hb
    clear h ha
    generalize hR : (ds.drop (k + 1)).flatMap (daE ds) ++ (trs.flatMap (trE ds) ++ ((Pr.funs ⟨nm, vr, us, ds, trs, ims, fus, acs⟩).map (fuE ds) ++ (acs.flatMap (acE ds) ++ []))) = R at *
    obtain ⟨dn, dps, mks⟩ := a
    dsimp only [daE] at hb hma
    repeat (first | refine gG ?_ | refine zN1 (fun hlen => ?_) | refine zN2 (fun hlen => ?_) | refine zAl (fun _ => ?_) | refine zBx (fun _ => ?_) | refine zAp (fun _ => ?_))
    refine zIx (k) (hk') ?_
    repeat (first | refine gG ?_ | refine zN1 (fun hlen => ?_) | refine zN2 (fun hlen => ?_) | refine zAl (fun _ => ?_) | refine zBx (fun _ => ?_) | refine zAp (fun _ => ?_))
    refine zEl (hat) (Da.ts_len _) ?_
    repeat (first | refine gG ?_ | refine zN1 (fun hlen => ?_) | refine zN2 (fun hlen => ?_) | refine zAl (fun _ => ?_) | refine zBx (fun _ => ?_) | refine zAp (fun _ => ?_))
    rename_i b6
    refine x_loop [2, 3, 8, 9, 41, 42, 43, 44, 45, 46, 47, 48, 49, 50, 51, 52, 53, 54] (fun j : Nat => [(41, .c (.lit (.int .i64 (j : Nat))))]) (fun _ => [.mp b M, .box b6 55 [.c (.lit (.string dn)), .c (strRow dps), .c (Mk.row mks)]]) (fun j => j ≤ mks.length ∧ firstP ((mks.drop j).map (mkE ds dps) ++ R) = P) (fun j => mks.length - j) 0 ⟨Nat.zero_le _, hb⟩ ⟨rfl, trivial⟩ rfl ?_
    clear hb
    rintro j ⟨hj, hc⟩
    repeat (first | refine gG ?_ | refine zN1 (fun hlen => ?_) | refine zN2 (fun hlen => ?_) | refine zAl (fun _ => ?_) | refine zBx (fun _ => ?_) | refine zAp (fun _ => ?_))
    refine x_cond rfl (fun h => ?_) (fun h => ?_)
    · have hj' : j < mks.length := by simpa using h
      obtain ⟨m, hm⟩ := nth hj'
      have hat2 := Mk.at hm
      have hca := hma m (List.mem_of_getElem? hm)
      rw [drop_cons hm, List.map_cons, List.cons_append] at hc
      clear h hm hma
      dsimp only [mkE] at hc
      generalize Y.errs ds dps m.args = e at *
      obtain ⟨mn, mas⟩ := m
      cases d : decide (e = 0)
      · replace hc := firstP_no hc d
        repeat (first | refine gG ?_ | refine zN1 (fun hlen => ?_) | refine zN2 (fun hlen => ?_) | refine zAl (fun _ => ?_) | refine zBx (fun _ => ?_) | refine zAp (fun _ => ?_))
        refine zIx (j) (hj') ?_
        repeat (first | refine gG ?_ | refine zN1 (fun hlen => ?_) | refine zN2 (fun hlen => ?_) | refine zAl (fun _ => ?_) | refine zBx (fun _ => ?_) | refine zAp (fun _ => ?_))
        refine zEl (hat2) (Mk.ts_len _) ?_
        repeat (first | refine gG ?_ | refine zN1 (fun hlen => ?_) | refine zN2 (fun hlen => ?_) | refine zAl (fun _ => ?_) | refine zBx (fun _ => ?_) | refine zAp (fun _ => ?_))
        refine zCallG [0] hca ?_
        rintro _ _ ⟨rfl, rfl⟩
        refine ⟨.c _, _, re_refl, rfl, rfl, ?_⟩
        clear hca
        repeat (first | refine gG ?_ | refine zN1 (fun hlen => ?_) | refine zN2 (fun hlen => ?_) | refine zAl (fun _ => ?_) | refine zBx (fun _ => ?_) | refine zAp (fun _ => ?_))
        first | refine zR ?_ | refine zQ ?_
        rw [← hc]; rfl
      · replace hc := firstP_go hc d
        have d' := d
        repeat (first | refine gG ?_ | refine zN1 (fun hlen => ?_) | refine zN2 (fun hlen => ?_) | refine zAl (fun _ => ?_) | refine zBx (fun _ => ?_) | refine zAp (fun _ => ?_))
        refine zIx (j) (hj') ?_
        repeat (first | refine gG ?_ | refine zN1 (fun hlen => ?_) | refine zN2 (fun hlen => ?_) | refine zAl (fun _ => ?_) | refine zBx (fun _ => ?_) | refine zAp (fun _ => ?_))
        refine zEl (hat2) (Mk.ts_len _) ?_
        repeat (first | refine gG ?_ | refine zN1 (fun hlen => ?_) | refine zN2 (fun hlen => ?_) | refine zAl (fun _ => ?_) | refine zBx (fun _ => ?_) | refine zAp (fun _ => ?_))
        refine zCallG [0] hca ?_
        rintro _ _ ⟨rfl, rfl⟩
        refine ⟨.c _, _, re_refl, rfl, rfl, ?_⟩
        clear hca
        repeat (first | refine gG ?_ | refine zN1 (fun hlen => ?_) | refine zN2 (fun hlen => ?_) | refine zAl (fun _ => ?_) | refine zBx (fun _ => ?_) | refine zAp (fun _ => ?_))
        exact ⟨j + 1, ⟨hj', hc⟩, by omega, x_wkd 2 ⟨rfl, trivial⟩ rfl (by repeat (first | exact ag_refl | refine ag_upd rfl ?_ | refine ag_at rfl rfl ?_))⟩
    · have hj' : j = mks.length := by
        have : ¬ j < mks.length := by simpa using h
        omega
      subst hj'
      clear h hma
      rw [List.drop_length, List.map_nil, List.nil_append] at hc
      repeat (first | refine gG ?_ | refine zN1 (fun hlen => ?_) | refine zN2 (fun hlen => ?_) | refine zAl (fun _ => ?_) | refine zBx (fun _ => ?_) | refine zAp (fun _ => ?_))
      exact ⟨k + 1, ⟨hk', by rw [hR]; exact hc⟩, by omega, x_wkd 1 ⟨rfl, trivial⟩ rfl (by repeat (first | exact ag_refl | refine ag_upd rfl ?_ | refine ag_at rfl rfl ?_))⟩
  have hk' : k = ds.length := by
    have : ¬ k < ds.length := by simpa using h
    omega
  subst hk'
  clear h hda hk
  rw [List.drop_length, List.flatMap_nil, List.nil_append] at hb
  have hP := hb
  clear hb
  repeat (first | refine gG ?_ | refine zN1 (fun hlen => ?_) | refine zN2 (fun hlen => ?_) | refine zAl (fun _ => ?_) | refine zBx (fun _ => ?_) | refine zAp (fun _ => ?_))
  refine x_loop [2, 3, 11, 13, 14, 15, 59, 60, 61, 62, 63, 64, 65, 66, 67, 68, 69, 70, 71, 72, 73, 74, 75, 76, 77, 78, 79, 80, 81, 82] (fun k : Nat => [(59, .c (.lit (.int .i64 (k : Nat))))]) (fun _ => [.mp b M]) (fun k => k ≤ trs.length ∧ firstP ((trs.drop k).flatMap (trE ds) ++ ((Pr.funs ⟨nm, vr, us, ds, trs, ims, fus, acs⟩).map (fuE ds) ++ (acs.flatMap (acE ds) ++ []))) = P) (fun k => trs.length - k) 0 ⟨Nat.zero_le _, hP⟩ ⟨rfl, trivial⟩ rfl ?_
  clear hP
  rintro k ⟨hk, hb⟩
  repeat (first | refine gG ?_ | refine zN1 (fun hlen => ?_) | refine zN2 (fun hlen => ?_) | refine zAl (fun _ => ?_) | refine zBx (fun _ => ?_) | refine zAp (fun _ => ?_))
  refine x_cond rfl (fun h => ?_) (fun h => ?_)
  · have hk' : k < trs.length := by simpa using h
    obtain ⟨a, ha⟩ := nth hk'
    have hat := Tr.at ha
    have hma := htr a (List.mem_of_getElem? ha)
    rw [drop_cons ha, List.flatMap_cons, List.append_assoc] at hb
    clear h ha
    generalize hR : (trs.drop (k + 1)).flatMap (trE ds) ++ ((Pr.funs ⟨nm, vr, us, ds, trs, ims, fus, acs⟩).map (fuE ds) ++ (acs.flatMap (acE ds) ++ [])) = R at *
    obtain ⟨tn, tfs⟩ := a
    dsimp only [trE] at hb hma
    repeat (first | refine gG ?_ | refine zN1 (fun hlen => ?_) | refine zN2 (fun hlen => ?_) | refine zAl (fun _ => ?_) | refine zBx (fun _ => ?_) | refine zAp (fun _ => ?_))
    refine zIx (k) (hk') ?_
    repeat (first | refine gG ?_ | refine zN1 (fun hlen => ?_) | refine zN2 (fun hlen => ?_) | refine zAl (fun _ => ?_) | refine zBx (fun _ => ?_) | refine zAp (fun _ => ?_))
    refine zEl (hat) (Tr.ts_len _) ?_
    repeat (first | refine gG ?_ | refine zN1 (fun hlen => ?_) | refine zN2 (fun hlen => ?_) | refine zAl (fun _ => ?_) | refine zBx (fun _ => ?_) | refine zAp (fun _ => ?_))
    rename_i b6
    refine x_loop [2, 3, 13, 14, 15, 66, 67, 68, 69, 70, 71, 72, 73, 74, 75, 76, 77, 78, 79, 80, 81] (fun j : Nat => [(66, .c (.lit (.int .i64 (j : Nat))))]) (fun _ => [.mp b M, .box b6 58 [.c (.lit (.string tn)), .c (Fu.row tfs)]]) (fun j => j ≤ tfs.length ∧ firstP ((tfs.drop j).map (sfE ds) ++ R) = P) (fun j => tfs.length - j) 0 ⟨Nat.zero_le _, hb⟩ ⟨rfl, trivial⟩ rfl ?_
    clear hb
    rintro j ⟨hj, hc⟩
    repeat (first | refine gG ?_ | refine zN1 (fun hlen => ?_) | refine zN2 (fun hlen => ?_) | refine zAl (fun _ => ?_) | refine zBx (fun _ => ?_) | refine zAp (fun _ => ?_))
    refine x_cond rfl (fun h => ?_) (fun h => ?_)
    · have hj' : j < tfs.length := by simpa using h
      obtain ⟨m, hm⟩ := nth hj'
      have hat2 := Fu.at hm
      have hca := hma m (List.mem_of_getElem? hm)
      rw [drop_cons hm, List.map_cons, List.cons_append] at hc
      clear h hm hma
      dsimp only [sfE] at hc
      generalize funP ds _ m = e at *
      obtain ⟨e1, e2⟩ := e
      obtain ⟨fnm, fpa, fna, fty, ⟨ok, on, oa⟩, ⟨kb, nb, tb, nsb, ysb, lb, rsb, pb⟩⟩ := m
      cases d : decide (e1 = 0)
      · replace hc := firstP_no hc d
        repeat (first | refine gG ?_ | refine zN1 (fun hlen => ?_) | refine zN2 (fun hlen => ?_) | refine zAl (fun _ => ?_) | refine zBx (fun _ => ?_) | refine zAp (fun _ => ?_))
        refine zIx (j) (hj') ?_
        repeat (first | refine gG ?_ | refine zN1 (fun hlen => ?_) | refine zN2 (fun hlen => ?_) | refine zAl (fun _ => ?_) | refine zBx (fun _ => ?_) | refine zAp (fun _ => ?_))
        refine zEl (hat2) (Fu.ts_len _) ?_
        repeat (first | refine gX ?_ | refine zN1 (fun hlen => ?_) | refine zN2 (fun hlen => ?_) | refine zAl (fun _ => ?_) | refine zBx (fun _ => ?_) | refine zAp (fun _ => ?_))
        refine zBo (fun v => ?_)
        repeat (first | refine gG ?_ | refine zN1 (fun hlen => ?_) | refine zN2 (fun hlen => ?_) | refine zAl (fun _ => ?_) | refine zBx (fun _ => ?_) | refine zAp (fun _ => ?_))
        refine zCallG [0, 3] (hca v) ?_
        rintro _ _ ⟨rfl, x, rfl⟩
        refine ⟨.tup [.c _, .c _], _, re_refl, rfl, rfl, ?_⟩
        clear hca
        repeat (first | refine gG ?_ | refine zN1 (fun hlen => ?_) | refine zN2 (fun hlen => ?_) | refine zAl (fun _ => ?_) | refine zBx (fun _ => ?_) | refine zAp (fun _ => ?_))
        first | refine zR ?_ | refine zQ ?_
        rw [← hc]; rfl
      · replace hc := firstP_go hc d
        have d' := d
        repeat (first | refine gG ?_ | refine zN1 (fun hlen => ?_) | refine zN2 (fun hlen => ?_) | refine zAl (fun _ => ?_) | refine zBx (fun _ => ?_) | refine zAp (fun _ => ?_))
        refine zIx (j) (hj') ?_
        repeat (first | refine gG ?_ | refine zN1 (fun hlen => ?_) | refine zN2 (fun hlen => ?_) | refine zAl (fun _ => ?_) | refine zBx (fun _ => ?_) | refine zAp (fun _ => ?_))
        refine zEl (hat2) (Fu.ts_len _) ?_
        repeat (first | refine gX ?_ | refine zN1 (fun hlen => ?_) | refine zN2 (fun hlen => ?_) | refine zAl (fun _ => ?_) | refine zBx (fun _ => ?_) | refine zAp (fun _ => ?_))
        refine zBo (fun v => ?_)
        repeat (first | refine gG ?_ | refine zN1 (fun hlen => ?_) | refine zN2 (fun hlen => ?_) | refine zAl (fun _ => ?_) | refine zBx (fun _ => ?_) | refine zAp (fun _ => ?_))
        refine zCallG [0, 3] (hca v) ?_
        rintro _ _ ⟨rfl, x, rfl⟩
        refine ⟨.tup [.c _, .c _], _, re_refl, rfl, rfl, ?_⟩
        clear hca
        repeat (first | refine gG ?_ | refine zN1 (fun hlen => ?_) | refine zN2 (fun hlen => ?_) | refine zAl (fun _ => ?_) | refine zBx (fun _ => ?_) | refine zAp (fun _ => ?_))
        exact ⟨j + 1, ⟨hj', hc⟩, by omega, x_wkd 2 ⟨rfl, trivial⟩ rfl (by repeat (first | exact ag_refl | refine ag_upd rfl ?_ | refine ag_at rfl rfl ?_))⟩
    · have hj' : j = tfs.length := by
        have : ¬ j < tfs.length := by simpa using h
        omega
      subst hj'
      clear h hma
      rw [List.drop_length, List.map_nil, List.nil_append] at hc
      repeat (first | refine gG ?_ | refine zN1 (fun hlen => ?_) | refine zN2 (fun hlen => ?_) | refine zAl (fun _ => ?_) | refine zBx (fun _ => ?_) | refine zAp (fun _ => ?_))
      exact ⟨k + 1, ⟨hk', by rw [hR]; exact hc⟩, by omega, x_wkd 1 ⟨rfl, trivial⟩ rfl (by repeat (first | exact ag_refl | refine ag_upd rfl ?_ | refine ag_at rfl rfl ?_))⟩
  have hk' : k = trs.length := by
    have : ¬ k < trs.length := by simpa using h
    omega
  subst hk'
  clear h htr hk
  rw [List.drop_length, List.flatMap_nil, List.nil_append] at hb
  have hP := hb
  clear hb
  have hflat : ims.flatMap Im.funcs ++ fus = Pr.funs ⟨nm, vr, us, ds, trs, ims, fus, acs⟩ := rfl
  rw [← hflat] at hP hfu hfl
  clear hflat
  have hfl' : (ims.flatMap Im.funcs).length + fus.length ≤ 1048576 := by rw [← List.length_append]; exact hfl
  repeat (first | refine gG ?_ | refine zN1 (fun hlen => ?_) | refine zN2 (fun hlen => ?_) | refine zAl (fun _ => ?_) | refine zBx (fun _ => ?_) | refine zAp (fun _ => ?_))
  refine x_own 16 66 15 rfl rfl rfl rfl rfl ?_
  refine x_loop [16, 18, 86, 87, 88, 89, 90, 91, 92, 93, 94] (fun y : Nat × Value => [(86, .c (.lit (.int .i64 (y.1 : Nat)))), (16, .own 1 y.2)]) (fun y => [.mp b M, .row y.2 66 15 ((ims.take y.1).flatMap Im.funcs).length (((ims.take y.1).flatMap Im.funcs).flatMap Fu.ts)])
    (fun y => y.1 ≤ ims.length) (fun y => ims.length - y.1) (0, .slice none 0 0) (Nat.zero_le _) ⟨rfl, rfl, trivial⟩ rfl ?_
  rintro ⟨k, v⟩ hk
  dsimp only at hk ⊢
  repeat (first | refine gG ?_ | refine zN1 (fun hlen => ?_) | refine zN2 (fun hlen => ?_) | refine zAl (fun _ => ?_) | refine zBx (fun _ => ?_) | refine zAp (fun _ => ?_))
  refine x_cond rfl (fun h => ?_) (fun h => ?_)
  · have hk' : k < ims.length := by simpa using h
    obtain ⟨a, ha⟩ := nth hk'
    have hle := flatl_le Im.funcs ims (k + 1)
    have hsn := flat_snoc' Im.funcs ha
    have hl1 : ((ims.take (k + 1)).flatMap Im.funcs).length = ((ims.take k).flatMap Im.funcs).length + a.funcs.length := by rw [hsn, List.length_append]
    have hc1 : ((ims.take (k + 1)).flatMap Im.funcs).flatMap Fu.ts = ((ims.take k).flatMap Im.funcs).flatMap Fu.ts ++ a.funcs.flatMap Fu.ts := by rw [hsn, List.flatMap_append]
    have hat := Im.at ha
    clear h hsn ha hP hfu ha1 ha2 ha3
    obtain ⟨tn, dn, fs⟩ := a
    dsimp only at hl1 hc1
    repeat (first | refine gG ?_ | refine zN1 (fun hlen => ?_) | refine zN2 (fun hlen => ?_) | refine zAl (fun _ => ?_) | refine zBx (fun _ => ?_) | refine zAp (fun _ => ?_))
    refine zIx (k) (hk') ?_
    repeat (first | refine gG ?_ | refine zN1 (fun hlen => ?_) | refine zN2 (fun hlen => ?_) | refine zAl (fun _ => ?_) | refine zBx (fun _ => ?_) | refine zAp (fun _ => ?_))
    refine zEl (hat) (Im.ts_len _) ?_
    repeat (first | refine gG ?_ | refine zN1 (fun hlen => ?_) | refine zN2 (fun hlen => ?_) | refine zAl (fun _ => ?_) | refine zBx (fun _ => ?_) | refine zAp (fun _ => ?_))
    exact ⟨(k + 1, _), hk', by simp only; omega, x_wkd 2 ⟨rfl, rfl, trivial⟩ (by simp only [hl1, hc1]; rfl) (by repeat (first | exact ag_refl | refine ag_upd rfl ?_ | refine ag_at rfl rfl ?_))⟩
  have hk' : k = ims.length := by
    have : ¬ k < ims.length := by simpa using h
    omega
  subst hk'
  clear h hk
  rw [List.take_length]
  repeat (first | refine gG ?_ | refine zN1 (fun hlen => ?_) | refine zN2 (fun hlen => ?_) | refine zAl (fun _ => ?_) | refine zBx (fun _ => ?_) | refine zAp (fun _ => ?_))
  refine x_fz 98 rfl rfl rfl rfl ?_
  refine x_drop 1 rfl ?_
  rw [← List.length_append, ← List.flatMap_append]
  generalize ims.flatMap Im.funcs ++ fus = fl at *
  refine x_loop [2, 3, 20, 21, 22, 100, 101, 102, 103, 104, 105, 106, 107, 108, 109, 110, 111, 112, 113, 114] (fun k : Nat => [(100, .c (.lit (.int .i64 (k : Nat))))]) (fun _ => [.mp b M]) (fun k => k ≤ fl.length ∧ firstP ((fl.drop k).map (fuE ds) ++ (acs.flatMap (acE ds) ++ [])) = P) (fun k => fl.length - k) 0 ⟨Nat.zero_le _, hP⟩ ⟨rfl, trivial⟩ rfl ?_
  clear hP
  rintro k ⟨hk, hb⟩
  repeat (first | refine gG ?_ | refine zN1 (fun hlen => ?_) | refine zN2 (fun hlen => ?_) | refine zAl (fun _ => ?_) | refine zBx (fun _ => ?_) | refine zAp (fun _ => ?_))
  refine x_cond rfl (fun h => ?_) (fun h => ?_)
  · have hk' : k < fl.length := by simpa using h
    obtain ⟨a, ha⟩ := nth hk'
    have hat := Fu.at ha
    have hca := hfu a (List.mem_of_getElem? ha)
    rw [drop_cons ha, List.map_cons, List.cons_append] at hb
    clear h ha hfu
    dsimp only [fuE] at hb
    generalize funP ds _ a = e at *
    obtain ⟨e1, e2⟩ := e
    obtain ⟨fnm, fpa, fna, fty, ⟨ok, on, oa⟩, ⟨kb, nb, tb, nsb, ysb, lb, rsb, pb⟩⟩ := a
    cases d : decide (e1 = 0)
    · replace hb := firstP_no hb d
      repeat (first | refine gG ?_ | refine zN1 (fun hlen => ?_) | refine zN2 (fun hlen => ?_) | refine zAl (fun _ => ?_) | refine zBx (fun _ => ?_) | refine zAp (fun _ => ?_))
      refine zIx (k) (hk') ?_
      repeat (first | refine gG ?_ | refine zN1 (fun hlen => ?_) | refine zN2 (fun hlen => ?_) | refine zAl (fun _ => ?_) | refine zBx (fun _ => ?_) | refine zAp (fun _ => ?_))
      refine zEl (hat) (Fu.ts_len _) ?_
      repeat (first | refine gG ?_ | refine zN1 (fun hlen => ?_) | refine zN2 (fun hlen => ?_) | refine zAl (fun _ => ?_) | refine zBx (fun _ => ?_) | refine zAp (fun _ => ?_))
      refine zCallG [0] hca ?_
      rintro _ _ ⟨rfl, rfl⟩
      refine ⟨.tup [.c _, .c _], _, re_refl, rfl, rfl, ?_⟩
      clear hca
      repeat (first | refine gG ?_ | refine zN1 (fun hlen => ?_) | refine zN2 (fun hlen => ?_) | refine zAl (fun _ => ?_) | refine zBx (fun _ => ?_) | refine zAp (fun _ => ?_))
      first | refine zR ?_ | refine zQ ?_
      rw [← hb]; rfl
    · replace hb := firstP_go hb d
      have d' := d
      repeat (first | refine gG ?_ | refine zN1 (fun hlen => ?_) | refine zN2 (fun hlen => ?_) | refine zAl (fun _ => ?_) | refine zBx (fun _ => ?_) | refine zAp (fun _ => ?_))
      refine zIx (k) (hk') ?_
      repeat (first | refine gG ?_ | refine zN1 (fun hlen => ?_) | refine zN2 (fun hlen => ?_) | refine zAl (fun _ => ?_) | refine zBx (fun _ => ?_) | refine zAp (fun _ => ?_))
      refine zEl (hat) (Fu.ts_len _) ?_
      repeat (first | refine gG ?_ | refine zN1 (fun hlen => ?_) | refine zN2 (fun hlen => ?_) | refine zAl (fun _ => ?_) | refine zBx (fun _ => ?_) | refine zAp (fun _ => ?_))
      refine zCallG [0] hca ?_
      rintro _ _ ⟨rfl, rfl⟩
      refine ⟨.tup [.c _, .c _], _, re_refl, rfl, rfl, ?_⟩
      clear hca
      repeat (first | refine gG ?_ | refine zN1 (fun hlen => ?_) | refine zN2 (fun hlen => ?_) | refine zAl (fun _ => ?_) | refine zBx (fun _ => ?_) | refine zAp (fun _ => ?_))
      exact ⟨k + 1, ⟨hk', hb⟩, by omega, x_wkd 1 ⟨rfl, trivial⟩ rfl (by repeat (first | exact ag_refl | refine ag_upd rfl ?_ | refine ag_at rfl rfl ?_))⟩
  have hk' : k = fl.length := by
    have : ¬ k < fl.length := by simpa using h
    omega
  subst hk'
  clear h hfu hk
  rw [List.drop_length, List.map_nil, List.nil_append] at hb
  have hP := hb
  clear hb
  repeat (first | refine gG ?_ | refine zN1 (fun hlen => ?_) | refine zN2 (fun hlen => ?_) | refine zAl (fun _ => ?_) | refine zBx (fun _ => ?_) | refine zAp (fun _ => ?_))
  refine x_loop [2, 3, 24, 25, 26, 27, 28, 118, 119, 120, 121, 122, 123, 124, 125, 126, 127, 128, 129, 130, 131, 132, 133, 134, 135, 136, 137, 138, 139, 140, 141, 142, 143, 144, 145, 146, 147] (fun k : Nat => [(118, .c (.lit (.int .i64 (k : Nat))))]) (fun _ => [.mp b M]) (fun k => k ≤ acs.length ∧ firstP ((acs.drop k).flatMap (acE ds) ++ []) = P) (fun k => acs.length - k) 0 ⟨Nat.zero_le _, hP⟩ ⟨rfl, trivial⟩ rfl ?_
  clear hP
  rintro k ⟨hk, hb⟩
  repeat (first | refine gG ?_ | refine zN1 (fun hlen => ?_) | refine zN2 (fun hlen => ?_) | refine zAl (fun _ => ?_) | refine zBx (fun _ => ?_) | refine zAp (fun _ => ?_))
  refine x_cond rfl (fun h => ?_) (fun h => ?_)
  rotate_left
  · have hk' : k = acs.length := by
      have : ¬ k < acs.length := by simpa using h
      omega
    subst hk'
    clear h ha1 ha2 ha3
    rw [List.drop_length] at hb
    repeat (first | refine gG ?_ | refine zN1 (fun hlen => ?_) | refine zN2 (fun hlen => ?_) | refine zAl (fun _ => ?_) | refine zBx (fun _ => ?_) | refine zAp (fun _ => ?_))
    first | refine zR ?_ | refine zQ ?_
    rw [← hb]; rfl
  have hk' : k < acs.length := by simpa using h
  obtain ⟨a, ha⟩ := nth hk'
  have hat := Ac.at ha
  have hmem := List.mem_of_getElem? ha
  have h1 := ha1 a hmem
  have h2 := ha2 a hmem
  have h3 := ha3 a hmem
  rw [drop_cons ha, List.flatMap_cons, List.append_assoc] at hb
  clear h ha hmem ha1 ha2 ha3
  dsimp only [acE] at hb
  generalize Y.errs ds [] a.types = e1 at *
  generalize Y.err ds [] a.msg = e2 at *
  generalize bodyP ds [] a.body.walk = e3 at *
  obtain ⟨e3, e4⟩ := e3
  simp only [List.cons_append, List.nil_append] at hb
  obtain ⟨an, ans, ats, ⟨mk, mn, ma⟩, ⟨kb, nb, tb, nsb, ysb, lb, rsb, pb⟩⟩ := a
  dsimp only at h1 h2 h3
  cases d1 : decide (e1 = 0)
  · replace hb := firstP_no hb d1
    clear h2 h3
    repeat (first | refine gG ?_ | refine zN1 (fun hlen => ?_) | refine zN2 (fun hlen => ?_) | refine zAl (fun _ => ?_) | refine zBx (fun _ => ?_) | refine zAp (fun _ => ?_))
    refine zIx (k) (hk') ?_
    repeat (first | refine gG ?_ | refine zN1 (fun hlen => ?_) | refine zN2 (fun hlen => ?_) | refine zAl (fun _ => ?_) | refine zBx (fun _ => ?_) | refine zAp (fun _ => ?_))
    refine zEl (hat) (Ac.ts_len _) ?_
    repeat (first | refine gG ?_ | refine zN1 (fun hlen => ?_) | refine zN2 (fun hlen => ?_) | refine zAl (fun _ => ?_) | refine zBx (fun _ => ?_) | refine zAp (fun _ => ?_))
    refine zCallG [0] h1 ?_
    rintro _ _ ⟨rfl, rfl⟩
    refine ⟨.c _, _, re_refl, rfl, rfl, ?_⟩
    clear h1
    repeat (first | refine gG ?_ | refine zN1 (fun hlen => ?_) | refine zN2 (fun hlen => ?_) | refine zAl (fun _ => ?_) | refine zBx (fun _ => ?_) | refine zAp (fun _ => ?_))
    first | refine zR ?_ | refine zQ ?_
    rw [← hb]; rfl

  replace hb := firstP_go hb d1
  cases d2 : decide (e2 = 0)
  · replace hb := firstP_no hb d2
    clear h3
    repeat (first | refine gG ?_ | refine zN1 (fun hlen => ?_) | refine zN2 (fun hlen => ?_) | refine zAl (fun _ => ?_) | refine zBx (fun _ => ?_) | refine zAp (fun _ => ?_))
    refine zIx (k) (hk') ?_
    repeat (first | refine gG ?_ | refine zN1 (fun hlen => ?_) | refine zN2 (fun hlen => ?_) | refine zAl (fun _ => ?_) | refine zBx (fun _ => ?_) | refine zAp (fun _ => ?_))
    refine zEl (hat) (Ac.ts_len _) ?_
    repeat (first | refine gG ?_ | refine zN1 (fun hlen => ?_) | refine zN2 (fun hlen => ?_) | refine zAl (fun _ => ?_) | refine zBx (fun _ => ?_) | refine zAp (fun _ => ?_))
    refine zCallG [0] h1 ?_
    rintro _ _ ⟨rfl, rfl⟩
    refine ⟨.c _, _, re_refl, rfl, rfl, ?_⟩
    clear h1
    repeat (first | refine gG ?_ | refine zN1 (fun hlen => ?_) | refine zN2 (fun hlen => ?_) | refine zAl (fun _ => ?_) | refine zBx (fun _ => ?_) | refine zAp (fun _ => ?_))
    refine zCallG [0] h2 ?_
    rintro _ _ ⟨rfl, rfl⟩
    refine ⟨.c _, _, re_refl, rfl, rfl, ?_⟩
    clear h2
    repeat (first | refine gG ?_ | refine zN1 (fun hlen => ?_) | refine zN2 (fun hlen => ?_) | refine zAl (fun _ => ?_) | refine zBx (fun _ => ?_) | refine zAp (fun _ => ?_))
    first | refine zR ?_ | refine zQ ?_
    rw [← hb]; rfl

  replace hb := firstP_go hb d2
  cases d3 : decide (e3 = 0)
  · replace hb := firstP_no hb d3
    repeat (first | refine gG ?_ | refine zN1 (fun hlen => ?_) | refine zN2 (fun hlen => ?_) | refine zAl (fun _ => ?_) | refine zBx (fun _ => ?_) | refine zAp (fun _ => ?_))
    refine zIx (k) (hk') ?_
    repeat (first | refine gG ?_ | refine zN1 (fun hlen => ?_) | refine zN2 (fun hlen => ?_) | refine zAl (fun _ => ?_) | refine zBx (fun _ => ?_) | refine zAp (fun _ => ?_))
    refine zEl (hat) (Ac.ts_len _) ?_
    repeat (first | refine gG ?_ | refine zN1 (fun hlen => ?_) | refine zN2 (fun hlen => ?_) | refine zAl (fun _ => ?_) | refine zBx (fun _ => ?_) | refine zAp (fun _ => ?_))
    refine zCallG [0] h1 ?_
    rintro _ _ ⟨rfl, rfl⟩
    refine ⟨.c _, _, re_refl, rfl, rfl, ?_⟩
    clear h1
    repeat (first | refine gG ?_ | refine zN1 (fun hlen => ?_) | refine zN2 (fun hlen => ?_) | refine zAl (fun _ => ?_) | refine zBx (fun _ => ?_) | refine zAp (fun _ => ?_))
    refine zCallG [0] h2 ?_
    rintro _ _ ⟨rfl, rfl⟩
    refine ⟨.c _, _, re_refl, rfl, rfl, ?_⟩
    clear h2
    repeat (first | refine gG ?_ | refine zN1 (fun hlen => ?_) | refine zN2 (fun hlen => ?_) | refine zAl (fun _ => ?_) | refine zBx (fun _ => ?_) | refine zAp (fun _ => ?_))
    refine zCallG [0] h3 ?_
    rintro _ _ ⟨rfl, rfl⟩
    refine ⟨.tup [.c _, .c _], _, re_refl, rfl, rfl, ?_⟩
    clear h3
    repeat (first | refine gG ?_ | refine zN1 (fun hlen => ?_) | refine zN2 (fun hlen => ?_) | refine zAl (fun _ => ?_) | refine zBx (fun _ => ?_) | refine zAp (fun _ => ?_))
    first | refine zR ?_ | refine zQ ?_
    rw [← hb]; rfl

  · replace hb := firstP_go hb d3
    repeat (first | refine gG ?_ | refine zN1 (fun hlen => ?_) | refine zN2 (fun hlen => ?_) | refine zAl (fun _ => ?_) | refine zBx (fun _ => ?_) | refine zAp (fun _ => ?_))
    refine zIx (k) (hk') ?_
    repeat (first | refine gG ?_ | refine zN1 (fun hlen => ?_) | refine zN2 (fun hlen => ?_) | refine zAl (fun _ => ?_) | refine zBx (fun _ => ?_) | refine zAp (fun _ => ?_))
    refine zEl (hat) (Ac.ts_len _) ?_
    repeat (first | refine gG ?_ | refine zN1 (fun hlen => ?_) | refine zN2 (fun hlen => ?_) | refine zAl (fun _ => ?_) | refine zBx (fun _ => ?_) | refine zAp (fun _ => ?_))
    refine zCallG [0] h1 ?_
    rintro _ _ ⟨rfl, rfl⟩
    refine ⟨.c _, _, re_refl, rfl, rfl, ?_⟩
    clear h1
    repeat (first | refine gG ?_ | refine zN1 (fun hlen => ?_) | refine zN2 (fun hlen => ?_) | refine zAl (fun _ => ?_) | refine zBx (fun _ => ?_) | refine zAp (fun _ => ?_))
    refine zCallG [0] h2 ?_
    rintro _ _ ⟨rfl, rfl⟩
    refine ⟨.c _, _, re_refl, rfl, rfl, ?_⟩
    clear h2
    repeat (first | refine gG ?_ | refine zN1 (fun hlen => ?_) | refine zN2 (fun hlen => ?_) | refine zAl (fun _ => ?_) | refine zBx (fun _ => ?_) | refine zAp (fun _ => ?_))
    refine zCallG [0] h3 ?_
    rintro _ _ ⟨rfl, rfl⟩
    refine ⟨.tup [.c _, .c _], _, re_refl, rfl, rfl, ?_⟩
    clear h3
    repeat (first | refine gG ?_ | refine zN1 (fun hlen => ?_) | refine zN2 (fun hlen => ?_) | refine zAl (fun _ => ?_) | refine zBx (fun _ => ?_) | refine zAp (fun _ => ?_))
    exact ⟨k + 1, ⟨hk', hb⟩, by omega, x_wkd 1 ⟨rfl, trivial⟩ rfl (by repeat (first | exact ag_refl | refine ag_upd rfl ?_ | refine ag_at rfl rfl ?_))⟩
end Go.Proofs.YtllgibfmddihgaaDoor
