/-
  Texts of this proof, part 11: Hff Tle Tle2 Tlr.
-/
import Derived.Test.YtnkafjkcjpajgaaQRenewPlan10
import Derived.Lib.AppendStr
import Derived.Lib.AppendZerosOnto
import Derived.Lib.MinMax
namespace Go.Proofs.Ytnkafjkcjpajgaa
open Go.RowKit
set_option maxRecDepth 100000 in
set_option maxHeartbeats 1000000 in
theorem dataOf_af (p : Pr) (n : ByteArray) : AF Try.prog 105 [p.t, .lit (.string n)] (· = .lit (.int .i64 (idxI (fun d : Da => decide (d.name = n)) p.datas))) := by
  obtain ⟨pn, pv, us, das, trs, ims, fus, acs⟩ := p
  refine af_enter tok Try.func105 Try.ntmps105 Try.results105 rfl (by kernel_rfl) rfl rfl fun F hX => ?_
  repeat (first | refine gG ?_ | refine zN1 (fun hlen => ?_) | refine zN2 (fun hlen => ?_) | refine zAl (fun _ => ?_) | refine zBx (fun _ => ?_))
  rename_i b0
  refine x_loop [4, 5, 6, 10, 11, 12, 13, 14, 15, 16, 17, 18, 19, 20] (fun k : Nat => [(10, .c (.lit (.int .i64 k)))]) (fun _ => [.box b0 66 [.c (.lit (.string pn)), .c (.lit (.int .i64 pv)), .c (Us.row us), .c (Da.row das), .c (Tr.row trs), .c (Im.row ims), .c (Fu.row fus), .c (Ac.row acs)]])
    (fun k => k ≤ das.length ∧ idxAt (fun d : Da => decide (d.name = n)) das k) (fun k => das.length - k) 0 ⟨Nat.zero_le _, idxAt_zero _ das⟩ ⟨rfl, trivial⟩ rfl fun k hk => ?_
  repeat (first | refine gG ?_ | refine zN1 (fun hlen => ?_) | refine zN2 (fun hlen => ?_) | refine zAl (fun _ => ?_) | refine zBx (fun _ => ?_))
  refine x_cond rfl (fun h => ?_) (fun h => ?_)
  · have hk' : k < das.length := by simpa using h
    obtain ⟨a, ha⟩ := nth hk'
    have hno := fun hq => idxAt_no (p := fun d : Da => decide (d.name = n)) hk.2 ha hq
    have hyes := fun hq => idxAt_yes (p := fun d : Da => decide (d.name = n)) hk.2 ha hq
    repeat (first | refine gG ?_ | refine zN1 (fun hlen => ?_) | refine zN2 (fun hlen => ?_) | refine zAl (fun _ => ?_) | refine zBx (fun _ => ?_))
    refine zIx (k) (hk') ?_
    repeat (first | refine gG ?_ | refine zN1 (fun hlen => ?_) | refine zN2 (fun hlen => ?_) | refine zAl (fun _ => ?_) | refine zBx (fun _ => ?_))
    refine zEl (Da.at ha) (Da.ts_len a) ?_
    obtain ⟨dn, dps, mks⟩ := a
    cases hp : decide (dn = n)
    · repeat (first | refine gG ?_ | refine zN1 (fun hlen => ?_) | refine zN2 (fun hlen => ?_) | refine zAl (fun _ => ?_) | refine zBx (fun _ => ?_))
      exact ⟨k + 1, ⟨hk', hno hp⟩, by omega, x_wkd 1 ⟨rfl, trivial⟩ rfl (by repeat (first | exact ag_refl | refine ag_upd rfl ?_ | refine ag_at rfl rfl ?_))⟩
    · repeat (first | refine gG ?_ | refine zN1 (fun hlen => ?_) | refine zN2 (fun hlen => ?_) | refine zAl (fun _ => ?_) | refine zBx (fun _ => ?_))
      first | refine zR ?_ | refine zQ ?_
      rw [hyes hp]; rfl
  · have hk' : k = das.length := by have : ¬ k < das.length := by simpa using h
                                    omega
    subst hk'
    repeat (first | refine gG ?_ | refine zN1 (fun hlen => ?_) | refine zN2 (fun hlen => ?_) | refine zAl (fun _ => ?_) | refine zBx (fun _ => ?_))
    first | refine zR ?_ | refine zQ ?_
    rw [idxAt_end hk.2]; rfl
/-- what the document's implementation takes for a type that no parameter stands for -/
def Y0 : Y := .mk 0 ⟨#[]⟩ []
def mean (y : Y) (s : Sc) : Y × Sc := if (res y s).1.kind = 5 then (Y0, .nil) else res y s
set_option maxRecDepth 100000 in
set_option maxHeartbeats 2000000 in
theorem meant_af (y0 : Y) (s0 : Sc) : AF Try.prog 132 [y0.t, s0.t] (· = .tup [(mean y0 s0).1.t, (mean y0 s0).2.t]) := by
  obtain ⟨k0, n0, l0⟩ := y0
  unfold mean
  refine af_enter tok Try.func132 Try.ntmps132 Try.results132 rfl (by kernel_rfl) rfl rfl fun F hX => ?_
  repeat (first | refine gG ?_ | refine zN1 (fun hlen => ?_) | refine zN2 (fun hlen => ?_) | refine zAl (fun _ => ?_) | refine zBx (fun _ => ?_))
  rename_i b0 b1
  refine x_loop [1, 5, 6, 7, 8, 9, 10, 11, 12, 13, 14, 15, 16, 17, 18, 19, 20, 21, 22, 23, 24, 25, 26, 27, 28, 29, 30, 31, 32, 33, 34, 35, 36, 37, 38, 39, 40, 41, 42, 43, 44, 45, 46, 47, 48, 49, 50, 51, 52, 53, 54, 55, 56, 57, 58, 59, 60, 61] (fun y : Y × Sc => [(1, .c y.2.t)]) (fun y => [.box b0 69 (y.1.ts.map .c), .box b1 69 [.c (.lit (.int .i64 0)), .c (.lit (.string ⟨#[]⟩)), .c (.lit (.slice none 0 0))]]) (fun y => res (.mk k0 n0 l0) s0 = res y.1 y.2) (fun y => y.2.depth) (.mk k0 n0 l0, s0) rfl ⟨rfl, trivial⟩ rfl ?_
  rintro ⟨⟨k, n, l⟩, s⟩ hI
  dsimp only at hI ⊢
  rw [hI]
  cases d5 : decide (k = 5)
  · have hk : ¬ k = 5 := of_decide_eq_false d5
    have hr : res (.mk k n l) s = (.mk k n l, s) := res_kind (y := .mk k n l) hk s
    rw [hr, if_neg (c := (Y.mk k n l).kind = 5) hk]
    repeat (first | refine gG ?_ | refine zN1 (fun hlen => ?_) | refine zN2 (fun hlen => ?_) | refine zAl (fun _ => ?_) | refine zBx (fun _ => ?_))
    first | refine zR ?_ | refine zQ ?_
    rfl
  · have h5 : k = 5 := of_decide_eq_true d5
    cases s with
    | nil =>
      have hr : res (.mk k n l) .nil = (.mk k n l, .nil) := rfl
      rw [hr, if_pos (c := (Y.mk k n l).kind = 5) h5]
      repeat (first | refine gG ?_ | refine zN1 (fun hlen => ?_) | refine zN2 (fun hlen => ?_) | refine zAl (fun _ => ?_) | refine zBx (fun _ => ?_))
      first | refine zR (ts := [Y0.t, .lit (.pointer none)]) ?_ | refine zQ (ts := [Y0.t, .lit (.pointer none)]) ?_
      rfl
    | mk ps ars o =>
      repeat (first | refine gG ?_ | refine zN1 (fun hlen => ?_) | refine zN2 (fun hlen => ?_) | refine zAl (fun _ => ?_) | refine zBx (fun _ => ?_))
      refine x_pinlen 1 0 rfl rfl fun hpl => ?_
      refine x_loop [6, 13, 14, 15, 16, 17, 18, 19, 20, 21, 22, 23, 24, 25, 26, 27, 28, 29, 30, 31, 32, 33] (fun j : Nat => [(6, .c (.lit (.int .i64 j)))]) (fun _ => [.box b0 69 ((Y.mk k n l).ts.map .c), .box b1 69 [.c (.lit (.int .i64 0)), .c (.lit (.string ⟨#[]⟩)), .c (.lit (.slice none 0 0))]])
        (fun j => j ≤ ps.length ∧ idxAt (fun x => decide (n = x)) ps j) (fun j => ps.length - j) 0 ⟨Nat.zero_le _, idxAt_zero _ ps⟩ ⟨rfl, trivial⟩ rfl fun j hj => ?_
      have hj1 := hj.1
      cases d1 : decide ((j : Int) < (ps.length : Int))
      · have hjl : j = ps.length := by have := of_decide_eq_false d1; omega
        subst hjl
        have hpos : posOf n ps = -1 := idxAt_end hj.2
        have hr : res (.mk k n l) (.mk ps ars o) = (.mk k n l, .mk ps ars o) := res_neg (y := .mk k n l) h5 (by show posOf n ps < 0; omega)
        rw [hr, if_pos (c := (Y.mk k n l).kind = 5) h5]
        have d2 : decide ((ps.length : Int) = (ps.length : Int)) = true := by simp
        cases d3 : decide ((ars.length : Int) ≤ (ps.length : Int))
        all_goals (
          repeat (first | refine gG ?_ | refine zN1 (fun hlen => ?_) | refine zN2 (fun hlen => ?_) | refine zAl (fun _ => ?_) | refine zBx (fun _ => ?_))
          refine ac_draw [1, 1, 1, 1, 1, 1, 1, 1, 1, 1, 1, 1, 1, 1, 1, 1, 1, 1, 1] [0, 1, 2, 3, 4, 5, 6, 7, 8, 9, 10, 11, 12, 13, 14, 15, 16, 17, 18] (by kernel_rfl) (by kernel_rfl) ?_
          refine gW ?_
          refine w_nil ?_
          repeat (first | refine gG ?_ | refine zN1 (fun hlen => ?_) | refine zN2 (fun hlen => ?_) | refine zAl (fun _ => ?_) | refine zBx (fun _ => ?_))
          first | refine zR (ts := [Y0.t, .lit (.pointer none)]) ?_ | refine zQ (ts := [Y0.t, .lit (.pointer none)]) ?_
          rfl)
      · have hjl : j < ps.length := by have := of_decide_eq_true d1; omega
        obtain ⟨a, ha⟩ := nth hjl
        have hat := str_at ha
        rw [← Nat.mul_one j] at hat
        cases hp : decide (a = n)
        · have hq : decide (n = a) = false := by have := of_decide_eq_false hp; simp; exact fun h => this h.symm
          repeat (first | refine gG ?_ | refine zN1 (fun hlen => ?_) | refine zN2 (fun hlen => ?_) | refine zAl (fun _ => ?_) | refine zBx (fun _ => ?_))
          refine ac_draw [1, 1, 1, 1, 1, 1, 1, 1, 1, 1, 1, 1, 1, 1, 1, 1, 1, 1, 1] [0, 1, 2, 3, 4, 5, 6, 7, 8, 9, 10, 11, 12, 13, 14, 15, 16, 17, 18] (by kernel_rfl) (by kernel_rfl) ?_
          refine gW ?_
          try (first | (apply w_un; (focus exact rfl); (focus exact rfl); (focus exact rfl); (focus exact rfl)) | (apply w_no; (focus exact rfl); (focus exact rfl); (focus exact rfl); (focus exact rfl); focus (first | rfl | assumption | exact neg_t (by assumption) | exact neg_f (by assumption))) | (apply w_qg; (focus exact rfl); (focus exact rfl); (focus exact rfl); (focus exact rfl); (focus (first | rfl | assumption | exact neg_t (by assumption) | exact neg_f (by assumption))); (focus (intro _; (refine zIx j hjl ?_); exact det_refl))))
          (first | (apply w_un; (focus exact rfl); (focus exact rfl); (focus exact rfl); (focus exact rfl)) | (apply w_no; (focus exact rfl); (focus exact rfl); (focus exact rfl); (focus exact rfl); focus (first | rfl | assumption | exact neg_t (by assumption) | exact neg_f (by assumption))) | (apply w_qg; (focus exact rfl); (focus exact rfl); (focus exact rfl); (focus exact rfl); (focus (first | rfl | assumption | exact neg_t (by assumption) | exact neg_f (by assumption))); (focus (intro _; (refine zEl1 hat ?_); exact det_refl))))
          try refine gW ?_
          refine w_nil ?_
          repeat (first | refine gG ?_ | refine zN1 (fun hlen => ?_) | refine zN2 (fun hlen => ?_) | refine zAl (fun _ => ?_) | refine zBx (fun _ => ?_))
          exact ⟨j + 1, ⟨hjl, idxAt_no hj.2 ha hq⟩, by omega, x_wkd 2 ⟨rfl, trivial⟩ rfl (by repeat (first | exact ag_refl | refine ag_upd rfl ?_ | refine ag_at rfl rfl ?_))⟩
        · have hq : decide (n = a) = true := by have := of_decide_eq_true hp; simp; exact this.symm
          have hpos : posOf n ps = j := idxAt_yes hj.2 ha hq
          have d2 : decide ((j : Int) = (ps.length : Int)) = false := by simp; omega
          cases d3 : decide ((ars.length : Int) ≤ (j : Int))
          · have hja : j < ars.length := by have := of_decide_eq_false d3; omega
            obtain ⟨z, hz⟩ := nth hja
            have hr : res (.mk k n l) (.mk ps ars o) = res z o := res_at (y := .mk k n l) h5 hpos hz
            have hzt := Y.at hz
            rw [hr]
            repeat (first | refine gG ?_ | refine zN1 (fun hlen => ?_) | refine zN2 (fun hlen => ?_) | refine zAl (fun _ => ?_) | refine zBx (fun _ => ?_))
            refine ac_draw [1, 1, 1, 1, 1, 1, 1, 1, 1, 1, 1, 1, 1, 1, 1, 1, 1, 1, 1] [0, 1, 2, 3, 4, 5, 6, 7, 8, 9, 10, 11, 12, 13, 14, 15, 16, 17, 18] (by kernel_rfl) (by kernel_rfl) ?_
            refine gW ?_
            try (first | (apply w_un; (focus exact rfl); (focus exact rfl); (focus exact rfl); (focus exact rfl)) | (apply w_no; (focus exact rfl); (focus exact rfl); (focus exact rfl); (focus exact rfl); focus (first | rfl | assumption | exact neg_t (by assumption) | exact neg_f (by assumption))) | (apply w_qg; (focus exact rfl); (focus exact rfl); (focus exact rfl); (focus exact rfl); (focus (first | rfl | assumption | exact neg_t (by assumption) | exact neg_f (by assumption))); (focus (intro _; (refine zIx j hjl ?_); exact det_refl))))
            (first | (apply w_un; (focus exact rfl); (focus exact rfl); (focus exact rfl); (focus exact rfl)) | (apply w_no; (focus exact rfl); (focus exact rfl); (focus exact rfl); (focus exact rfl); focus (first | rfl | assumption | exact neg_t (by assumption) | exact neg_f (by assumption))) | (apply w_qg; (focus exact rfl); (focus exact rfl); (focus exact rfl); (focus exact rfl); (focus (first | rfl | assumption | exact neg_t (by assumption) | exact neg_f (by assumption))); (focus (intro _; (refine zEl1 hat ?_); exact det_refl))))
            try refine gW ?_
            refine w_nil ?_
            repeat (first | refine gG ?_ | refine zN1 (fun hlen => ?_) | refine zN2 (fun hlen => ?_) | refine zAl (fun _ => ?_) | refine zBx (fun _ => ?_))
            obtain ⟨kz, nz, lz⟩ := z
            refine ac_draw [1, 1, 1, 1, 1, 1, 1, 0, 0, 0, 0, 2, 1] [0, 1, 2, 3, 4, 5, 6, 7, 8, 9, 10, 11, 12] (by kernel_rfl) (by kernel_rfl) ?_
            refine gW ?_
            apply w_q; (focus exact rfl); (focus exact rfl); focus (intro _; (refine zIx j hja ?_); exact det_refl)
            apply w_q; (focus exact rfl); (focus exact rfl); focus (intro _; (refine zEl hzt (Y.ts_len _) ?_); exact det_refl)
            refine gW ?_
            apply w_l; (focus exact rfl); (focus exact rfl); (refine zS ?_)
            refine gW ?_
            refine w_nil ?_
            repeat (first | refine gG ?_ | refine zN1 (fun hlen => ?_) | refine zN2 (fun hlen => ?_) | refine zAl (fun _ => ?_) | refine zBx (fun _ => ?_))
            exact ⟨(.mk kz nz lz, o), rfl, by simp only [Sc.depth]; omega, x_wkd 2 ⟨rfl, trivial⟩ rfl (by repeat (first | exact ag_refl | refine ag_upd rfl ?_ | refine ag_at rfl rfl ?_))⟩
          · have hn : ars[(posOf n ps).toNat]? = none := List.getElem?_eq_none (by have := of_decide_eq_true d3; omega)
            have hr : res (.mk k n l) (.mk ps ars o) = (.mk k n l, .mk ps ars o) := res_over (y := .mk k n l) h5 (by show ¬ posOf n ps < 0; omega) hn
            rw [hr, if_pos (c := (Y.mk k n l).kind = 5) h5]
            repeat (first | refine gG ?_ | refine zN1 (fun hlen => ?_) | refine zN2 (fun hlen => ?_) | refine zAl (fun _ => ?_) | refine zBx (fun _ => ?_))
            refine ac_draw [1, 1, 1, 1, 1, 1, 1, 1, 1, 1, 1, 1, 1, 1, 1, 1, 1, 1, 1] [0, 1, 2, 3, 4, 5, 6, 7, 8, 9, 10, 11, 12, 13, 14, 15, 16, 17, 18] (by kernel_rfl) (by kernel_rfl) ?_
            refine gW ?_
            try (first | (apply w_un; (focus exact rfl); (focus exact rfl); (focus exact rfl); (focus exact rfl)) | (apply w_no; (focus exact rfl); (focus exact rfl); (focus exact rfl); (focus exact rfl); focus (first | rfl | assumption | exact neg_t (by assumption) | exact neg_f (by assumption))) | (apply w_qg; (focus exact rfl); (focus exact rfl); (focus exact rfl); (focus exact rfl); (focus (first | rfl | assumption | exact neg_t (by assumption) | exact neg_f (by assumption))); (focus (intro _; (refine zIx j hjl ?_); exact det_refl))))
            (first | (apply w_un; (focus exact rfl); (focus exact rfl); (focus exact rfl); (focus exact rfl)) | (apply w_no; (focus exact rfl); (focus exact rfl); (focus exact rfl); (focus exact rfl); focus (first | rfl | assumption | exact neg_t (by assumption) | exact neg_f (by assumption))) | (apply w_qg; (focus exact rfl); (focus exact rfl); (focus exact rfl); (focus exact rfl); (focus (first | rfl | assumption | exact neg_t (by assumption) | exact neg_f (by assumption))); (focus (intro _; (refine zEl1 hat ?_); exact det_refl))))
            try refine gW ?_
            refine w_nil ?_
            repeat (first | refine gG ?_ | refine zN1 (fun hlen => ?_) | refine zN2 (fun hlen => ?_) | refine zAl (fun _ => ?_) | refine zBx (fun _ => ?_))
            first | refine zR (ts := [Y0.t, .lit (.pointer none)]) ?_ | refine zQ (ts := [Y0.t, .lit (.pointer none)]) ?_
            rfl
end Go.Proofs.Ytnkafjkcjpajgaa
namespace Go.Proofs.Ytnkafjkcjpajgaa
open Go.RowKit
def allOf (f : Y → Option V) : List Y → Option (List V)
  | [] => some []
  | y :: l => match f y with | none => none | some v => (match allOf f l with | none => none | some r => some (v :: r))
def mkOf (f : Y → Option V) (m : Mk) : Option V := if 6 < m.args.length then none else match allOf f m.args with | none => none | some l => some (.mk 5 0 m.name l)
def pickMk (q : Mk → Option V) : List Mk → List Mk → Option V
  | _, [] => none
  | bs, m :: r => if bs.any (fun x => decide (x.name = m.name)) then pickMk q (bs ++ [m]) r else match q m with | some v => some v | none => pickMk q (bs ++ [m]) r
def cellOf (f : Y → Option V) (l : List Y) : Option V := if l.length = 1 then (match allOf f l with | none => none | some r => some (.mk 8 0 ⟨#[]⟩ r)) else none
def dataFirst (un : Option (Da × Sc)) (f : Sc → Y → Option V) : Option V := match un with | none => none | some (d, s) => pickMk (mkOf (f s)) [] d.makes
def firstAt (p : Pr) (sub : Option (Sc → Y → Option V)) (y : Y) (s : Sc) : Option V :=
  if 0 < basicOf y.kind then some (.mk (basicOf y.kind) 0 ⟨#[]⟩ [])
  else match sub with
    | none => none
    | some f => if y.kind = 9 then cellOf (f s) y.args else if y.kind = 6 then dataFirst (p.under y s) f else none
def Pr.first (p : Pr) : Nat → Sc → Y → Option V
  | 0, s, y => firstAt p none (res y s).1 (res y s).2
  | d + 1, s, y => firstAt p (some (p.first d)) (res y s).1 (res y s).2
/-- a value, and whether it is one -/
def IsFirst (o : Option V) (r : T) : Prop := ∃ v : V, r = .tup [v.t, .lit (.bool o.isSome)] ∧ ∀ w, o = some w → v = w
def IsFirsts (o : Option (List V)) (r : T) : Prop := ∃ v : List V, r = .tup [V.row v, .lit (.bool o.isSome)] ∧ ∀ w, o = some w → v = w
def preOf (vs : List V) (o : Option (List V)) : Option (List V) := match o with | none => none | some l => some (vs ++ l)
theorem allOf_at {f : Y → Option V} {l : List Y} {k : Nat} {y : Y} {vs : List V} (h : allOf f l = preOf vs (allOf f (l.drop k))) (hy : l[k]? = some y) :
    (f y = none → allOf f l = none) ∧ ∀ v, f y = some v → allOf f l = preOf (vs ++ [v]) (allOf f (l.drop (k + 1))) := by
  obtain ⟨h1, rfl⟩ := List.getElem?_eq_some_iff.1 hy
  rw [List.drop_eq_getElem_cons h1] at h
  simp only [allOf] at h
  refine ⟨fun hn => ?_, fun v hv => ?_⟩
  · rw [hn] at h; exact h
  · rw [hv] at h
    rw [h]
    cases allOf f (l.drop (k + 1)) with
    | none => rfl
    | some r => simp [preOf]
theorem allOf_end {f : Y → Option V} {l : List Y} {k : Nat} {vs : List V} (h : allOf f l = preOf vs (allOf f (l.drop k))) (hk : l.length ≤ k) : allOf f l = some vs := by
  rw [h, List.drop_eq_nil_of_le hk]
  simp [allOf, preOf]
theorem pickMk_at {q : Mk → Option V} {l : List Mk} {k : Nat} {m : Mk} (hm : l[k]? = some m) : pickMk q (l.take k) (l.drop k) = if (l.take k).any (fun x => decide (x.name = m.name)) then pickMk q (l.take (k + 1)) (l.drop (k + 1)) else match q m with | some v => some v | none => pickMk q (l.take (k + 1)) (l.drop (k + 1)) := by
  obtain ⟨h1, rfl⟩ := List.getElem?_eq_some_iff.1 hm
  rw [List.drop_eq_getElem_cons h1, pickMk, List.take_succ_eq_append_getElem h1]
set_option maxRecDepth 100000 in
set_option maxHeartbeats 2000000 in
theorem firsts_af (p : Pr) (s : Sc) (d : Nat) (f : Y → Option V) (l : List Y) (hl : l.length ≤ 6) (hf : ∀ y ∈ l, AF Try.prog 131 [p.t, Y.t y, s.t, .lit (.int .i64 (d : Int))] (IsFirst (f y))) :
    AF Try.prog 160 [p.t, Y.row l, s.t, .lit (.int .i64 (d : Int))] (IsFirsts (allOf f l)) := by
  obtain ⟨pn, pv, us, das, trs, ims, fus, acs⟩ := p
  refine af_enter tok Try.func160 Try.ntmps160 Try.results160 rfl (by kernel_rfl) rfl rfl fun F hX => ?_
  repeat (first | refine gG ?_ | refine zN1 (fun hlen => ?_) | refine zN2 (fun hlen => ?_) | refine zAl (fun _ => ?_) | refine zBx (fun _ => ?_) | refine zAp (fun _ => ?_))
  rename_i b0
  refine x_own 10 148 4 rfl rfl rfl rfl rfl ?_
  refine x_loop [8, 9, 10, 12, 13, 14, 17, 18, 19, 20, 21, 22, 23, 24, 25, 26, 27, 28, 29, 30, 31, 32, 33, 34, 35] (fun y : Nat × Value × List V => [(17, .c (.lit (.int .i64 y.1))), (10, .own 1 y.2.1)]) (fun y => [.box b0 66 [.c (.lit (.string pn)), .c (.lit (.int .i64 pv)), .c (Us.row us), .c (Da.row das), .c (Tr.row trs), .c (Im.row ims), .c (Fu.row fus), .c (Ac.row acs)], .row y.2.1 148 4 y.1 (V.all y.2.2)])
    (fun y => y.1 ≤ l.length ∧ y.2.2.length = y.1 ∧ allOf f l = preOf y.2.2 (allOf f (l.drop y.1))) (fun y => l.length - y.1) (0, .slice none 0 0, []) ⟨Nat.zero_le _, rfl, by simp only [List.drop_zero]; cases allOf f l <;> rfl⟩ ⟨rfl, rfl, trivial⟩ rfl ?_
  rintro ⟨k, v, vs⟩ ⟨hk, hvs, hinv⟩
  dsimp only at hk hvs hinv ⊢
  repeat (first | refine gG ?_ | refine zN1 (fun hlen => ?_) | refine zN2 (fun hlen => ?_) | refine zAl (fun _ => ?_) | refine zBx (fun _ => ?_) | refine zAp (fun _ => ?_))
  refine x_cond rfl (fun h => ?_) (fun h => ?_)
  · have hk' : k < l.length := by simpa using h
    obtain ⟨a, ha⟩ := nth hk'
    have hfa := hf a (List.mem_of_getElem? ha)
    have hstep := allOf_at hinv ha
    repeat (first | refine gG ?_ | refine zN1 (fun hlen => ?_) | refine zN2 (fun hlen => ?_) | refine zAl (fun _ => ?_) | refine zBx (fun _ => ?_) | refine zAp (fun _ => ?_))
    refine zIx (k) (hk') ?_
    repeat (first | refine gG ?_ | refine zN1 (fun hlen => ?_) | refine zN2 (fun hlen => ?_) | refine zAl (fun _ => ?_) | refine zBx (fun _ => ?_) | refine zAp (fun _ => ?_))
    refine zEl (Y.at ha) (Y.ts_len a) ?_
    obtain ⟨ka, na, la⟩ := a
    cases ho : f (.mk ka na la) with
    | none =>
      rw [ho] at hfa
      repeat (first | refine gG ?_ | refine zN1 (fun hlen => ?_) | refine zN2 (fun hlen => ?_) | refine zAl (fun _ => ?_) | refine zBx (fun _ => ?_) | refine zAp (fun _ => ?_))
      refine zCall (hfa) ?_
      rintro _ ⟨⟨kr, nr, tr, lr⟩, rfl, -⟩
      repeat (first | refine gG ?_ | refine zN1 (fun hlen => ?_) | refine zN2 (fun hlen => ?_) | refine zAl (fun _ => ?_) | refine zBx (fun _ => ?_) | refine zAp (fun _ => ?_))
      first | refine zR (ts := [V.row [], .lit (.bool false)]) ?_ | refine zQ (ts := [V.row [], .lit (.bool false)]) ?_
      rw [hstep.1 ho]
      exact ⟨[], rfl, fun w hw => by cases hw⟩
    | some r =>
      rw [ho] at hfa
      repeat (first | refine gG ?_ | refine zN1 (fun hlen => ?_) | refine zN2 (fun hlen => ?_) | refine zAl (fun _ => ?_) | refine zBx (fun _ => ?_) | refine zAp (fun _ => ?_))
      refine zCall (hfa) ?_
      rintro _ ⟨r', rfl, hr'⟩
      obtain rfl := hr' r rfl
      have hst := hstep.2 r' ho
      obtain ⟨kr, nr, tr, lr⟩ := r'
      repeat (first | refine gG ?_ | refine zN1 (fun hlen => ?_) | refine zN2 (fun hlen => ?_) | refine zAl (fun _ => ?_) | refine zBx (fun _ => ?_) | refine zAp (fun _ => ?_))
      exact ⟨(k + 1, _, vs ++ [.mk kr nr tr lr]), ⟨hk', by simp [hvs], hst⟩, by simp only; omega, x_wkd 2 ⟨rfl, rfl, trivial⟩ (by simp only [V.all_app, V.all_one]; rfl) (by repeat (first | exact ag_refl | refine ag_upd rfl ?_ | refine ag_at rfl rfl ?_))⟩
  · have hk' : l.length ≤ k := by have : ¬ k < l.length := by simpa using h
                                  omega
    have hend := allOf_end hinv hk'
    rw [hend]
    subst hvs
    repeat (first | refine gG ?_ | refine zN1 (fun hlen => ?_) | refine zN2 (fun hlen => ?_) | refine zAl (fun _ => ?_) | refine zBx (fun _ => ?_) | refine zAp (fun _ => ?_))
    first | refine zR (ts := [V.row vs, .lit (.bool true)]) ?_ | refine zQ (ts := [V.row vs, .lit (.bool true)]) ?_
    exact ⟨vs, rfl, fun w hw => by injection hw⟩
set_option maxRecDepth 100000 in
set_option maxHeartbeats 1000000 in
theorem hasMk_af (p : Mk → Bool) (f : FuncId) (cap : List T) (l : List Mk) (hf : ∀ a ∈ l, AF Try.prog f (a.t :: cap) (· = .lit (.bool (p a)))) :
    AF Try.prog 162 [Mk.row l, .fn (.func f) cap] (· = .lit (.bool (l.any p))) := by
  have hc := idxMk_af p f cap l hf
  refine af_enter tok Try.func162 Try.ntmps162 Try.results162 rfl (by kernel_rfl) rfl rfl fun F hX => ?_
  repeat (first | refine gG ?_)
  refine zCall (hc) ?_
  rintro _ rfl
  repeat (first | refine gG ?_)
  first | refine zR ?_ | refine zQ ?_
  rw [← idxI_any]; rfl
set_option maxRecDepth 100000 in
set_option maxHeartbeats 1000000 in
theorem first1_af (m c : Mk) : AF Try.prog 163 [m.t, .pin c.ts 0] (· = .lit (.bool (decide (m.name = c.name)))) := by
  obtain ⟨mn, ma⟩ := m
  obtain ⟨cn, ca⟩ := c
  refine af_enter tok Try.func163 Try.ntmps163 Try.results163 rfl (by kernel_rfl) rfl rfl fun F hX => ?_
  repeat (first | refine gG ?_ | refine zBx (fun _ => ?_))
  first | refine zR ?_ | refine zQ ?_
  rfl
theorem mk_take (l : List Mk) (n : Nat) (h : n ≤ l.length) : T.row n 2 ((l.flatMap Mk.ts).take (n * 2)) = Mk.row (l.take n) := by
  have h1 : (l.flatMap Mk.ts).take (n * 2) = (l.take n).flatMap Mk.ts := by
    have h2 : ((l.take n).flatMap Mk.ts).length = n * 2 := by
      induction l generalizing n with
      | nil => simp at h; simp [h]
      | cons x l ih =>
        cases n with
        | zero => simp
        | succ n =>
          simp only [List.take_succ_cons, List.flatMap_cons, List.length_append, Mk.ts_len]
          rw [ih n (by simpa using h)]
          omega
    conv => lhs; rw [← List.take_append_drop n l, List.flatMap_append, ← h2]
    exact List.take_left' rfl
  rw [h1, Mk.row]
  congr 1
  simp; omega
end Go.Proofs.Ytnkafjkcjpajgaa
namespace Go.Proofs.Ytnkafjkcjpajgaa
open Go.RowKit
section
variable {p : Pr} {sub : Option (Sc → Y → Option V)} {f : Sc → Y → Option V} {ky : Int} {ny : ByteArray} {ly : List Y} {s : Sc}
theorem firstAt_b (h : 0 < basicOf ky) : firstAt p sub (.mk ky ny ly) s = some (.mk (basicOf ky) 0 ⟨#[]⟩ []) := by unfold firstAt; exact if_pos h
theorem firstAt_n (h : ¬ 0 < basicOf ky) : firstAt p none (.mk ky ny ly) s = none := by unfold firstAt; exact if_neg h
theorem firstAt_9 : firstAt p (some f) (.mk 9 ny ly) s = cellOf (f s) ly := by simp [firstAt, Y.kind, Y.args, basicOf]
theorem firstAt_6 : firstAt p (some f) (.mk 6 ny ly) s = dataFirst (p.under (.mk 6 ny ly) s) f := by simp [firstAt, Y.kind, basicOf]
theorem firstAt_0 (h : ¬ 0 < basicOf ky) (h9 : ¬ ky = 9) (h6 : ¬ ky = 6) : firstAt p (some f) (.mk ky ny ly) s = none := by unfold firstAt; exact (if_neg h).trans ((if_neg h9).trans (if_neg h6))
end
theorem mkOf_big {f : Y → Option V} {mn : ByteArray} {ma : List Y} (h : 6 < ma.length) : mkOf f ⟨mn, ma⟩ = none := if_pos h
theorem mkOf_none {f : Y → Option V} {mn : ByteArray} {ma : List Y} (h : allOf f ma = none) : mkOf f ⟨mn, ma⟩ = none := by
  unfold mkOf
  split
  · rfl
  · simp [h]
theorem mkOf_some {f : Y → Option V} {mn : ByteArray} {ma : List Y} {l : List V} (hl : ¬ 6 < ma.length) (h : allOf f ma = some l) : mkOf f ⟨mn, ma⟩ = some (.mk 5 0 mn l) := by
  unfold mkOf
  rw [if_neg (c := 6 < (Mk.mk mn ma).args.length) hl]
  simp [h]
def V0 : V := .mk 0 0 ⟨#[]⟩ []
set_option maxRecDepth 100000 in
set_option maxHeartbeats 2000000 in
theorem first0_af (p : Pr) (y : Y) (s : Sc) : AF Try.prog 131 [p.t, y.t, s.t, .lit (.int .i64 ((0 : Nat) : Int))] (IsFirst (p.first 0 s y)) := by
  have hr := resolve_af y s
  rw [Pr.first]
  generalize res y s = r at *
  obtain ⟨⟨ky, ny, ly⟩, s'⟩ := r
  dsimp only at hr ⊢
  have hb := basic_af ky
  have hfb := firstAt_b (p := p) (sub := none) (ky := ky) (ny := ny) (ly := ly) (s := s')
  have hfn := firstAt_n (p := p) (ky := ky) (ny := ny) (ly := ly) (s := s')
  generalize basicOf ky = bv at *
  obtain ⟨k0, n0, l0⟩ := y
  obtain ⟨pn, pv, us, das, trs, ims, fus, acs⟩ := p
  refine af_enter tok Try.func131 Try.ntmps131 Try.results131 rfl (by kernel_rfl) rfl rfl fun F hX => ?_
  repeat (first | refine gG ?_ | refine zN1 (fun hlen => ?_) | refine zN2 (fun hlen => ?_) | refine zSub ?_ | refine zAl (fun _ => ?_) | refine zBx (fun _ => ?_))
  refine zCall (hr) ?_
  rintro _ rfl
  repeat (first | refine gG ?_ | refine zN1 (fun hlen => ?_) | refine zN2 (fun hlen => ?_) | refine zSub ?_ | refine zAl (fun _ => ?_) | refine zBx (fun _ => ?_))
  refine zCall (hb) ?_
  rintro _ rfl
  cases d1 : decide (0 < bv)
  · rw [hfn (of_decide_eq_false d1)]
    repeat (first | refine gG ?_ | refine zN1 (fun hlen => ?_) | refine zN2 (fun hlen => ?_) | refine zSub ?_ | refine zAl (fun _ => ?_) | refine zBx (fun _ => ?_))
    first | refine zR (ts := [V0.t, .lit (.bool false)]) ?_ | refine zQ (ts := [V0.t, .lit (.bool false)]) ?_
    exact ⟨V0, rfl, fun w hw => by cases hw⟩
  · rw [hfb (of_decide_eq_true d1)]
    repeat (first | refine gG ?_ | refine zN1 (fun hlen => ?_) | refine zN2 (fun hlen => ?_) | refine zSub ?_ | refine zAl (fun _ => ?_) | refine zBx (fun _ => ?_))
    first | refine zR (ts := [(V.mk bv 0 ⟨#[]⟩ []).t, .lit (.bool true)]) ?_ | refine zQ (ts := [(V.mk bv 0 ⟨#[]⟩ []).t, .lit (.bool true)]) ?_
    exact ⟨.mk bv 0 ⟨#[]⟩ [], rfl, fun w hw => by injection hw⟩
set_option maxRecDepth 100000 in
set_option maxHeartbeats 8000000 in
theorem firstS_af (p : Pr) (d : Nat) (hd : d < 3) (f : Sc → Y → Option V) (hf : ∀ (y : Y) (s : Sc), AF Try.prog 131 [p.t, y.t, s.t, .lit (.int .i64 (d : Int))] (IsFirst (f s y))) (y : Y) (s : Sc) :
    AF Try.prog 131 [p.t, y.t, s.t, .lit (.int .i64 ((d + 1 : Nat) : Int))] (IsFirst (firstAt p (some f) (res y s).1 (res y s).2)) := by
  have hr := resolve_af y s
  generalize res y s = r at *
  obtain ⟨⟨ky, ny, ly⟩, s'⟩ := r
  dsimp only at hr ⊢
  have hb := basic_af ky
  have hfb := firstAt_b (p := p) (sub := some f) (ky := ky) (ny := ny) (ly := ly) (s := s')
  have hf0 := firstAt_0 (p := p) (f := f) (ky := ky) (ny := ny) (ly := ly) (s := s')
  have hf9 := firstAt_9 (p := p) (f := f) (ny := ny) (ly := ly) (s := s')
  have hf6 := firstAt_6 (p := p) (f := f) (ny := ny) (ly := ly) (s := s')
  have hun := under_af p (.mk 6 ny ly) s'
  generalize p.under (.mk 6 ny ly) s' = un at hf6 hun
  have b9 : basicOf 9 = 0 := rfl
  have b6 : basicOf 6 = 0 := rfl
  have hfs : ∀ (l : List Y) (s : Sc), l.length ≤ 6 → AF Try.prog 160 [p.t, Y.row l, s.t, .lit (.int .i64 (d : Int))] (IsFirsts (allOf (f s) l)) := fun l s hl => firsts_af p s d (f s) l hl (fun y _ => hf y s)
  obtain ⟨k0, n0, l0⟩ := y
  obtain ⟨pn, pv, us, das, trs, ims, fus, acs⟩ := p
  have dd : decide (((d + 1 : Nat) : Int) < 1) = false := by simp; omega
  refine af_enter tok Try.func131 Try.ntmps131 Try.results131 rfl (by kernel_rfl) rfl rfl fun F hX => ?_
  repeat (first | refine gG ?_ | refine zN1 (fun hlen => ?_) | refine zN2 (fun hlen => ?_) | refine zAl (fun _ => ?_) | refine zBx (fun _ => ?_))
  refine zCall (hr) ?_
  rintro _ rfl
  repeat (first | refine gG ?_ | refine zN1 (fun hlen => ?_) | refine zN2 (fun hlen => ?_) | refine zAl (fun _ => ?_) | refine zBx (fun _ => ?_))
  refine zCall (hb) ?_
  rintro _ rfl
  rename_i b0 b1 b2
  by_cases h9 : ky = 9
  · subst h9
    rw [hf9]
    unfold cellOf
    have d1 : decide ((0 : Int) < basicOf 9) = false := rfl
    cases d2 : decide ((ly.length : Int) = 1)
    · have hl : ¬ ly.length = 1 := by have := of_decide_eq_false d2; omega
      rw [if_neg hl]
      repeat (first | refine gG ?_ | refine zN1 (fun hlen => ?_) | refine zN2 (fun hlen => ?_) | refine zAl (fun _ => ?_) | refine zBx (fun _ => ?_))
      first | refine zR (ts := [V0.t, .lit (.bool false)]) ?_ | refine zQ (ts := [V0.t, .lit (.bool false)]) ?_
      exact ⟨V0, rfl, fun w hw => by cases hw⟩
    · have hl : ly.length = 1 := by have := of_decide_eq_true d2; omega
      rw [if_pos hl]
      have hc := hfs ly s' (by omega)
      repeat (first | refine gG ?_ | refine zN1 (fun hlen => ?_) | refine zN2 (fun hlen => ?_) | refine zAl (fun _ => ?_) | refine zBx (fun _ => ?_))
      refine lo_sub rfl rfl (r := ((d : Nat) : Int)) (by rw [IntWalk.i64_in _ (by omega)]; omega) ?_
      repeat (first | refine gG ?_ | refine zN1 (fun hlen => ?_) | refine zN2 (fun hlen => ?_) | refine zAl (fun _ => ?_) | refine zBx (fun _ => ?_))
      refine zCall (hc) ?_
      rintro _ ⟨vs, rfl, hvs⟩
      cases ho : allOf (f s') ly with
      | none =>
        repeat (first | refine gG ?_ | refine zN1 (fun hlen => ?_) | refine zN2 (fun hlen => ?_) | refine zAl (fun _ => ?_) | refine zBx (fun _ => ?_))
        first | refine zR (ts := [(V.mk 8 0 ⟨#[]⟩ vs).t, .lit (.bool false)]) ?_ | refine zQ (ts := [(V.mk 8 0 ⟨#[]⟩ vs).t, .lit (.bool false)]) ?_
        exact ⟨.mk 8 0 ⟨#[]⟩ vs, rfl, fun w hw => by cases hw⟩
      | some r =>
        obtain rfl := hvs r ho
        repeat (first | refine gG ?_ | refine zN1 (fun hlen => ?_) | refine zN2 (fun hlen => ?_) | refine zAl (fun _ => ?_) | refine zBx (fun _ => ?_))
        first | refine zR (ts := [(V.mk 8 0 ⟨#[]⟩ vs).t, .lit (.bool true)]) ?_ | refine zQ (ts := [(V.mk 8 0 ⟨#[]⟩ vs).t, .lit (.bool true)]) ?_
        exact ⟨.mk 8 0 ⟨#[]⟩ vs, rfl, fun w hw => by injection hw⟩
  by_cases h6 : ky = 6
  · subst h6
    rw [hf6]
    have d1 : decide ((0 : Int) < basicOf 6) = false := rfl
    cases un with
    | none =>
      repeat (first | refine gG ?_ | refine zN1 (fun hlen => ?_) | refine zN2 (fun hlen => ?_) | refine zAl (fun _ => ?_) | refine zBx (fun _ => ?_))
      refine zCall (hun) ?_
      rintro _ rfl
      repeat (first | refine gG ?_ | refine zN1 (fun hlen => ?_) | refine zN2 (fun hlen => ?_) | refine zAl (fun _ => ?_) | refine zBx (fun _ => ?_))
      first | refine zR (ts := [V0.t, .lit (.bool false)]) ?_ | refine zQ (ts := [V0.t, .lit (.bool false)]) ?_
      exact ⟨V0, rfl, fun w hw => by cases hw⟩
    | some ds =>
      obtain ⟨⟨dn, dps, mks⟩, s2⟩ := ds
      dsimp only [dataFirst]
      repeat (first | refine gG ?_ | refine zN1 (fun hlen => ?_) | refine zN2 (fun hlen => ?_) | refine zAl (fun _ => ?_) | refine zBx (fun _ => ?_))
      refine zCall (hun) ?_
      rintro _ rfl
      repeat (first | refine gG ?_ | refine zN1 (fun hlen => ?_) | refine zN2 (fun hlen => ?_) | refine zAl (fun _ => ?_) | refine zBx (fun _ => ?_))
      rename_i b3
      refine x_loop [9, 16, 17, 18, 19, 20, 74, 75, 76, 77, 78, 79, 80, 81, 82, 83, 84, 85, 86, 87, 88, 89, 90, 91, 92, 93, 94, 95, 96, 97, 98, 99, 100, 101, 102, 103, 104, 105, 106, 107] (fun i : Nat => [(74, .c (.lit (.int .i64 i)))]) (fun _ => [.box b0 66 [.c (.lit (.string pn)), .c (.lit (.int .i64 pv)), .c (Us.row us), .c (Da.row das), .c (Tr.row trs), .c (Im.row ims), .c (Fu.row fus), .c (Ac.row acs)], .box b1 69 ((Y.mk 6 ny ly).ts.map .c), .box b2 148 [.c (.lit (.int .i64 0)), .c (.lit (.int .i64 0)), .c (.lit (.string ⟨#[]⟩)), .c (.lit (.slice none 0 0))], .box b3 135 [.c (.lit (.string dn)), .c (strRow dps), .c (Mk.row mks)]])
        (fun i => i ≤ mks.length ∧ pickMk (mkOf (f s2)) [] mks = pickMk (mkOf (f s2)) (mks.take i) (mks.drop i)) (fun i => mks.length - i) 0 ⟨Nat.zero_le _, rfl⟩ ⟨rfl, trivial⟩ rfl fun i hi => ?_
      repeat (first | refine gG ?_ | refine zN1 (fun hlen => ?_) | refine zN2 (fun hlen => ?_) | refine zAl (fun _ => ?_) | refine zBx (fun _ => ?_))
      refine x_cond rfl (fun h => ?_) (fun h => ?_)
      · have hi' : i < mks.length := by simpa using h
        obtain ⟨m, hm⟩ := nth hi'
        have hst := pickMk_at (q := mkOf (f s2)) hm
        have hct := hasMk_af (fun x => decide (x.name = m.name)) 163 [.pin m.ts 0] (mks.take i) (fun a _ => first1_af a m)
        rw [← mk_take mks i hi.1] at hct
        have hca := fun hl => hfs m.args s2 hl
        repeat (first | refine gG ?_ | refine zN1 (fun hlen => ?_) | refine zN2 (fun hlen => ?_) | refine zAl (fun _ => ?_) | refine zBx (fun _ => ?_))
        refine zIx (i) (hi') ?_
        repeat (first | refine gG ?_ | refine zN1 (fun hlen => ?_) | refine zN2 (fun hlen => ?_) | refine zAl (fun _ => ?_) | refine zBx (fun _ => ?_))
        refine zEl (Mk.at hm) (Mk.ts_len m) ?_
        obtain ⟨mn, ma⟩ := m
        dsimp only at hst hct hca
        generalize (mks.take i).any (fun x => decide (x.name = mn)) = ag at hst hct
        repeat (first | refine gG ?_ | refine zN1 (fun hlen => ?_) | refine zN2 (fun hlen => ?_) | refine zAl (fun _ => ?_) | refine zBx (fun _ => ?_))
        refine zPh i hi.1 rfl ?_
        repeat (first | refine gG ?_ | refine zN1 (fun hlen => ?_) | refine zN2 (fun hlen => ?_) | refine zAl (fun _ => ?_) | refine zBx (fun _ => ?_))
        refine zPeek (hct) ?_
        rintro _ rfl
        refine ⟨rfl, ?_⟩
        cases ag
        · cases d6 : decide ((6 : Int) < (ma.length : Int))
          · have hl : ¬ 6 < ma.length := by have := of_decide_eq_false d6; omega
            have hcc := hca (by omega)
            repeat (first | refine gG ?_ | refine zN1 (fun hlen => ?_) | refine zN2 (fun hlen => ?_) | refine zAl (fun _ => ?_) | refine zBx (fun _ => ?_))
            refine lo_sub rfl rfl (r := ((d : Nat) : Int)) (by rw [IntWalk.i64_in _ (by omega)]; omega) ?_
            repeat (first | refine gG ?_ | refine zN1 (fun hlen => ?_) | refine zN2 (fun hlen => ?_) | refine zAl (fun _ => ?_) | refine zBx (fun _ => ?_))
            refine zCall (hcc) ?_
            rintro _ ⟨vs, rfl, hvs⟩
            cases ho : allOf (f s2) ma with
            | none =>
              rw [mkOf_none ho] at hst
              repeat (first | refine gG ?_ | refine zN1 (fun hlen => ?_) | refine zN2 (fun hlen => ?_) | refine zAl (fun _ => ?_) | refine zBx (fun _ => ?_))
              exact ⟨i + 1, ⟨hi', hi.2.trans hst⟩, by omega, x_wkd 4 ⟨rfl, trivial⟩ rfl (by repeat (first | exact ag_refl | refine ag_upd rfl ?_ | refine ag_at rfl rfl ?_))⟩
            | some r =>
              obtain rfl := hvs r ho
              rw [mkOf_some hl ho] at hst
              rw [hi.2, hst]
              repeat (first | refine gG ?_ | refine zN1 (fun hlen => ?_) | refine zN2 (fun hlen => ?_) | refine zAl (fun _ => ?_) | refine zBx (fun _ => ?_))
              first | refine zR (ts := [(V.mk 5 0 mn vs).t, .lit (.bool true)]) ?_ | refine zQ (ts := [(V.mk 5 0 mn vs).t, .lit (.bool true)]) ?_
              exact ⟨.mk 5 0 mn vs, rfl, fun w hw => by injection hw⟩
          · have hl : 6 < ma.length := by have := of_decide_eq_true d6; omega
            rw [mkOf_big hl] at hst
            repeat (first | refine gG ?_ | refine zN1 (fun hlen => ?_) | refine zN2 (fun hlen => ?_) | refine zAl (fun _ => ?_) | refine zBx (fun _ => ?_))
            exact ⟨i + 1, ⟨hi', hi.2.trans hst⟩, by omega, x_wkd 4 ⟨rfl, trivial⟩ rfl (by repeat (first | exact ag_refl | refine ag_upd rfl ?_ | refine ag_at rfl rfl ?_))⟩
        · repeat (first | refine gG ?_ | refine zN1 (fun hlen => ?_) | refine zN2 (fun hlen => ?_) | refine zAl (fun _ => ?_) | refine zBx (fun _ => ?_))
          exact ⟨i + 1, ⟨hi', hi.2.trans hst⟩, by omega, x_wkd 4 ⟨rfl, trivial⟩ rfl (by repeat (first | exact ag_refl | refine ag_upd rfl ?_ | refine ag_at rfl rfl ?_))⟩
      · have hi' : i = mks.length := by have : ¬ i < mks.length := by simpa using h
                                        omega
        have hno : pickMk (mkOf (f s2)) [] mks = none := by rw [hi.2, hi', List.drop_length, pickMk]
        rw [hno]
        repeat (first | refine gG ?_ | refine zN1 (fun hlen => ?_) | refine zN2 (fun hlen => ?_) | refine zAl (fun _ => ?_) | refine zBx (fun _ => ?_))
        first | refine zR (ts := [V0.t, .lit (.bool false)]) ?_ | refine zQ (ts := [V0.t, .lit (.bool false)]) ?_
        exact ⟨V0, rfl, fun w hw => by cases hw⟩
  have e9 : decide (ky = 9) = false := by simpa using h9
  have e6 : decide (ky = 6) = false := by simpa using h6
  generalize basicOf ky = bv at *
  cases d1 : decide (0 < bv)
  · rw [hf0 (of_decide_eq_false d1) h9 h6]
    repeat (first | refine gG ?_ | refine zN1 (fun hlen => ?_) | refine zN2 (fun hlen => ?_) | refine zAl (fun _ => ?_) | refine zBx (fun _ => ?_))
    first | refine zR (ts := [V0.t, .lit (.bool false)]) ?_ | refine zQ (ts := [V0.t, .lit (.bool false)]) ?_
    exact ⟨V0, rfl, fun w hw => by cases hw⟩
  · rw [hfb (of_decide_eq_true d1)]
    repeat (first | refine gG ?_ | refine zN1 (fun hlen => ?_) | refine zN2 (fun hlen => ?_) | refine zAl (fun _ => ?_) | refine zBx (fun _ => ?_))
    first | refine zR (ts := [(V.mk bv 0 ⟨#[]⟩ []).t, .lit (.bool true)]) ?_ | refine zQ (ts := [(V.mk bv 0 ⟨#[]⟩ []).t, .lit (.bool true)]) ?_
    exact ⟨.mk bv 0 ⟨#[]⟩ [], rfl, fun w hw => by injection hw⟩
theorem first_af (p : Pr) : ∀ (d : Nat), d ≤ 3 → ∀ (y : Y) (s : Sc), AF Try.prog 131 [p.t, y.t, s.t, .lit (.int .i64 (d : Int))] (IsFirst (p.first d s y))
  | 0, _, y, s => first0_af p y s
  | d + 1, h, y, s => by
    rw [Pr.first]
    exact firstS_af p d (by omega) (p.first d) (fun y s => first_af p d (by omega) y s) y s
/-- the first value among the depths from d on -/
def leastFrom (g : Nat → Option V) (d n : Nat) : Option V := match n with
  | 0 => none
  | n + 1 => match g d with | some v => some v | none => leastFrom g (d + 1) n
def Pr.least (p : Pr) (y : Y) : Option V := leastFrom (fun d => p.first d .nil y) 0 4
def codeV : Option V → Int
  | some _ => 0
  | none => 4
theorem leastFrom_at {g : Nat → Option V} {d : Nat} (h : d < 4) : leastFrom g d (4 - d) = match g d with | some v => some v | none => leastFrom g (d + 1) (4 - (d + 1)) := by
  rw [show 4 - d = (4 - (d + 1)) + 1 by omega, leastFrom]
set_option maxRecDepth 100000 in
set_option maxHeartbeats 2000000 in
theorem First_af (p : Pr) (y : Y) : AF Try.prog 104 [p.t, y.t] (· = .tup [((p.least y).getD V0).t, .lit (.int .i64 (codeV (p.least y)))]) := by
  obtain ⟨g', hg'⟩ : ∃ g', (fun d => p.first d .nil y) = g' := ⟨_, rfl⟩
  have hf : ∀ d : Nat, d ≤ 3 → AF Try.prog 131 [p.t, y.t, Sc.nil.t, .lit (.int .i64 (d : Int))] (IsFirst (g' d)) := by
    intro d hd
    rw [← hg']
    exact first_af p d hd y .nil
  unfold Pr.least
  rw [hg']
  clear hg'
  obtain ⟨k0, n0, l0⟩ := y
  obtain ⟨pn, pv, us, das, trs, ims, fus, acs⟩ := p
  refine af_enter tok Try.func104 Try.ntmps104 Try.results104 rfl (by kernel_rfl) rfl rfl fun F hX => ?_
  repeat (first | refine gG ?_ | refine zAl (fun _ => ?_) | refine zBx (fun _ => ?_))
  rename_i b0 b1 b2
  refine x_loop [5, 6, 7, 8, 9, 10, 11, 12, 13, 14, 15, 16, 17, 18, 19, 20, 21] (fun d : Nat => [(9, .c (.lit (.int .i64 d)))]) (fun _ => [.box b0 66 [.c (.lit (.string pn)), .c (.lit (.int .i64 pv)), .c (Us.row us), .c (Da.row das), .c (Tr.row trs), .c (Im.row ims), .c (Fu.row fus), .c (Ac.row acs)], .box b1 69 ((Y.mk k0 n0 l0).ts.map .c), .box b2 148 [.c (.lit (.int .i64 0)), .c (.lit (.int .i64 0)), .c (.lit (.string ⟨#[]⟩)), .c (.lit (.slice none 0 0))]])
    (fun d => d ≤ 4 ∧ leastFrom g' 0 4 = leastFrom g' d (4 - d)) (fun d => 4 - d) 0 ⟨Nat.zero_le _, rfl⟩ ⟨rfl, trivial⟩ rfl fun d hd => ?_
  have hd1 := hd.1
  repeat (first | refine gG ?_ | refine zAl (fun _ => ?_) | refine zBx (fun _ => ?_))
  refine x_cond rfl (fun h => ?_) (fun h => ?_)
  · have hd4 : d < 4 := by have : (d : Int) < 4 := of_decide_eq_true h
                           omega
    have hc := hf d (by omega)
    have hst := leastFrom_at (g := g') hd4
    cases ho : g' d with
    | none =>
      rw [ho] at hc hst
      repeat (first | refine gG ?_ | refine zAl (fun _ => ?_) | refine zBx (fun _ => ?_))
      refine zCall (hc) ?_
      rintro _ ⟨⟨kr, nr, tr, lr⟩, rfl, -⟩
      repeat (first | refine gG ?_ | refine zAl (fun _ => ?_) | refine zBx (fun _ => ?_))
      exact ⟨d + 1, ⟨hd4, hd.2.trans hst⟩, by omega, x_wkd 3 ⟨rfl, trivial⟩ rfl (by repeat (first | exact ag_refl | refine ag_upd rfl ?_ | refine ag_at rfl rfl ?_))⟩
    | some r =>
      rw [ho] at hc hst
      rw [hd.2, hst]
      dsimp only [codeV, Option.getD]
      repeat (first | refine gG ?_ | refine zAl (fun _ => ?_) | refine zBx (fun _ => ?_))
      refine zCall (hc) ?_
      rintro _ ⟨r', rfl, hr'⟩
      obtain rfl := hr' r rfl
      obtain ⟨kr, nr, tr, lr⟩ := r'
      repeat (first | refine gG ?_ | refine zAl (fun _ => ?_) | refine zBx (fun _ => ?_))
      first | refine zR (ts := [(V.mk kr nr tr lr).t, .lit (.int .i64 0)]) ?_ | refine zQ (ts := [(V.mk kr nr tr lr).t, .lit (.int .i64 0)]) ?_
      rfl
  · have hd4 : d = 4 := by have : ¬ (d : Int) < 4 := of_decide_eq_false h
                           omega
    have hno : leastFrom g' 0 4 = none := by rw [hd.2, hd4]; rfl
    rw [hno]
    repeat (first | refine gG ?_ | refine zAl (fun _ => ?_) | refine zBx (fun _ => ?_))
    first | refine zR (ts := [V0.t, .lit (.int .i64 4)]) ?_ | refine zQ (ts := [V0.t, .lit (.int .i64 4)]) ?_
    rfl
end Go.Proofs.Ytnkafjkcjpajgaa
namespace Go.Proofs.Ytnkafjkcjpajgaa
open Go.RowKit
theorem basic_iff (k : Int) : 0 < basicOf k ↔ k = 1 ∨ k = 2 ∨ k = 3 ∨ k = 4 := by
  unfold basicOf
  constructor
  · intro h
    split at h
    · omega
    split at h
    · omega
    split at h
    · omega
    split at h
    · omega
    · omega
  · rintro (rfl | rfl | rfl | rfl) <;> decide
theorem firstAt_mean {p : Pr} {sub : Option (Sc → Y → Option V)} (y : Y) (s : Sc) : firstAt p sub (res y s).1 (res y s).2 = firstAt p sub (mean y s).1 (mean y s).2 := by
  unfold mean
  split
  · rename_i h
    cases hr : res y s with
    | mk y' s' =>
      rw [hr] at h
      obtain ⟨k', n', l'⟩ := y'
      have h5 : k' = 5 := h
      subst h5
      cases sub with
      | none =>
        rw [firstAt_n (by decide)]
        exact (firstAt_n (by decide)).symm
      | some f =>
        rw [firstAt_0 (by decide) (by omega) (by omega)]
        exact (firstAt_0 (by decide) (by omega) (by omega)).symm
  · rfl
/-- what is returned -/
def firstT (o : Option V) (v : V) : T := .tup [(o.getD v).t, .lit (.bool o.isSome)]
set_option maxRecDepth 100000 in
set_option maxHeartbeats 4000000 in
theorem firstR0_af (p : Pr) (y : Y) (s : Sc) : AF Try.prog 107 [p.t, y.t, s.t, .lit (.int .i64 ((0 : Nat) : Int))] (· = firstT (p.first 0 s y) V0) := by
  have hr := meant_af y s
  rw [Pr.first, firstAt_mean]
  generalize mean y s = r at *
  obtain ⟨⟨ky, ny, ly⟩, s'⟩ := r
  dsimp only at hr ⊢
  have hfb := firstAt_b (p := p) (sub := none) (ky := ky) (ny := ny) (ly := ly) (s := s')
  have hfn := firstAt_n (p := p) (ky := ky) (ny := ny) (ly := ly) (s := s')
  have hdo := dataOf_af p ny
  have hbi := basic_iff ky
  obtain ⟨k0, n0, l0⟩ := y
  obtain ⟨pn, pv, us, das, trs, ims, fus, acs⟩ := p
  refine af_enter tok Try.func107 Try.ntmps107 Try.results107 rfl (by kernel_rfl) rfl rfl fun F hX => ?_
  repeat (first | refine gG ?_ | refine zN1 (fun hlen => ?_) | refine zN2 (fun hlen => ?_) | refine zSub ?_ | refine zAl (fun _ => ?_) | refine zBx (fun _ => ?_) | refine zAp (fun _ => ?_))
  refine zCall (hr) ?_
  rintro _ rfl
  by_cases kb : ky = 1 ∨ ky = 2 ∨ ky = 3 ∨ ky = 4
  · rw [hfb (hbi.2 kb)]
    clear hfb hfn hbi
    rcases kb with rfl | rfl | rfl | rfl
    · repeat (first | refine gG ?_ | refine zN1 (fun hlen => ?_) | refine zN2 (fun hlen => ?_) | refine zSub ?_ | refine zAl (fun _ => ?_) | refine zBx (fun _ => ?_) | refine zAp (fun _ => ?_))
      refine zIx 1 (show 1 < 5 by omega) ?_
      repeat (first | refine gG ?_ | refine zN1 (fun hlen => ?_) | refine zN2 (fun hlen => ?_) | refine zSub ?_ | refine zAl (fun _ => ?_) | refine zBx (fun _ => ?_) | refine zAp (fun _ => ?_))
      first | refine zR (ts := [(V.mk 2 0 ⟨#[]⟩ []).t, .lit (.bool true)]) ?_ | refine zQ (ts := [(V.mk 2 0 ⟨#[]⟩ []).t, .lit (.bool true)]) ?_
      rfl
    · repeat (first | refine gG ?_ | refine zN1 (fun hlen => ?_) | refine zN2 (fun hlen => ?_) | refine zSub ?_ | refine zAl (fun _ => ?_) | refine zBx (fun _ => ?_) | refine zAp (fun _ => ?_))
      refine zIx 2 (show 2 < 5 by omega) ?_
      repeat (first | refine gG ?_ | refine zN1 (fun hlen => ?_) | refine zN2 (fun hlen => ?_) | refine zSub ?_ | refine zAl (fun _ => ?_) | refine zBx (fun _ => ?_) | refine zAp (fun _ => ?_))
      first | refine zR (ts := [(V.mk 3 0 ⟨#[]⟩ []).t, .lit (.bool true)]) ?_ | refine zQ (ts := [(V.mk 3 0 ⟨#[]⟩ []).t, .lit (.bool true)]) ?_
      rfl
    · repeat (first | refine gG ?_ | refine zN1 (fun hlen => ?_) | refine zN2 (fun hlen => ?_) | refine zSub ?_ | refine zAl (fun _ => ?_) | refine zBx (fun _ => ?_) | refine zAp (fun _ => ?_))
      refine zIx 3 (show 3 < 5 by omega) ?_
      repeat (first | refine gG ?_ | refine zN1 (fun hlen => ?_) | refine zN2 (fun hlen => ?_) | refine zSub ?_ | refine zAl (fun _ => ?_) | refine zBx (fun _ => ?_) | refine zAp (fun _ => ?_))
      first | refine zR (ts := [(V.mk 4 0 ⟨#[]⟩ []).t, .lit (.bool true)]) ?_ | refine zQ (ts := [(V.mk 4 0 ⟨#[]⟩ []).t, .lit (.bool true)]) ?_
      rfl
    · repeat (first | refine gG ?_ | refine zN1 (fun hlen => ?_) | refine zN2 (fun hlen => ?_) | refine zSub ?_ | refine zAl (fun _ => ?_) | refine zBx (fun _ => ?_) | refine zAp (fun _ => ?_))
      refine zIx 4 (show 4 < 5 by omega) ?_
      repeat (first | refine gG ?_ | refine zN1 (fun hlen => ?_) | refine zN2 (fun hlen => ?_) | refine zSub ?_ | refine zAl (fun _ => ?_) | refine zBx (fun _ => ?_) | refine zAp (fun _ => ?_))
      first | refine zR (ts := [(V.mk 1 0 ⟨#[]⟩ []).t, .lit (.bool true)]) ?_ | refine zQ (ts := [(V.mk 1 0 ⟨#[]⟩ []).t, .lit (.bool true)]) ?_
      rfl
  · rw [hfn (fun h => kb (hbi.1 h))]
    have e1 : decide (ky = 1) = false := by simpa using fun h => kb (.inl h)
    have e2 : decide (ky = 2) = false := by simpa using fun h => kb (.inr (.inl h))
    have e3 : decide (ky = 3) = false := by simpa using fun h => kb (.inr (.inr (.inl h)))
    have e4 : decide (ky = 4) = false := by simpa using fun h => kb (.inr (.inr (.inr h)))
    have d0 : decide (((0 : Nat) : Int) < 1) = true := rfl
    by_cases k9 : ky = 9
    · subst k9
      cases d2 : decide ((ly.length : Int) = 1)
      all_goals (
        repeat (first | refine gG ?_ | refine zN1 (fun hlen => ?_) | refine zN2 (fun hlen => ?_) | refine zSub ?_ | refine zAl (fun _ => ?_) | refine zBx (fun _ => ?_) | refine zAp (fun _ => ?_))
        first | refine zR (ts := [V0.t, .lit (.bool false)]) ?_ | refine zQ (ts := [V0.t, .lit (.bool false)]) ?_
        rfl)
    by_cases k6 : ky = 6
    · subst k6
      generalize idxI (fun d : Da => decide (d.name = ny)) das = ix at hdo
      cases d2 : decide (ix < 0)
      all_goals (
        repeat (first | refine gG ?_ | refine zN1 (fun hlen => ?_) | refine zN2 (fun hlen => ?_) | refine zSub ?_ | refine zAl (fun _ => ?_) | refine zBx (fun _ => ?_) | refine zAp (fun _ => ?_))
        refine zCall (hdo) ?_
        rintro _ rfl
        repeat (first | refine gG ?_ | refine zN1 (fun hlen => ?_) | refine zN2 (fun hlen => ?_) | refine zSub ?_ | refine zAl (fun _ => ?_) | refine zBx (fun _ => ?_) | refine zAp (fun _ => ?_))
        refine ac_draw [1, 1, 1, 1, 1, 1, 1, 1, 1, 1, 1, 1, 1, 1, 1, 1, 1, 1, 1] [0, 1, 2, 3, 4, 5, 6, 7, 8, 9, 10, 11, 12, 13, 14, 15, 16, 17, 18] (by kernel_rfl) (by kernel_rfl) ?_
        refine gW ?_
        refine w_nil ?_
        repeat (first | refine gG ?_ | refine zN1 (fun hlen => ?_) | refine zN2 (fun hlen => ?_) | refine zSub ?_ | refine zAl (fun _ => ?_) | refine zBx (fun _ => ?_) | refine zAp (fun _ => ?_))
        first | refine zR (ts := [V0.t, .lit (.bool false)]) ?_ | refine zQ (ts := [V0.t, .lit (.bool false)]) ?_
        rfl)
    have e9 : decide (ky = 9) = false := by simpa using k9
    have e6 : decide (ky = 6) = false := by simpa using k6
    repeat (first | refine gG ?_ | refine zN1 (fun hlen => ?_) | refine zN2 (fun hlen => ?_) | refine zSub ?_ | refine zAl (fun _ => ?_) | refine zBx (fun _ => ?_) | refine zAp (fun _ => ?_))
    first | refine zR (ts := [V0.t, .lit (.bool false)]) ?_ | refine zQ (ts := [V0.t, .lit (.bool false)]) ?_
    rfl
end Go.Proofs.Ytnkafjkcjpajgaa
