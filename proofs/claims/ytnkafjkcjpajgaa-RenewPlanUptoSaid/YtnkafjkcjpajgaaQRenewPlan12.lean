/-
  Texts of this proof, part 12: Tlr2 Tes Tps.
-/
import Derived.Test.YtnkafjkcjpajgaaQRenewPlan11
import Derived.Lib.AppendStr
import Derived.Lib.AppendZerosOnto
import Derived.Lib.MinMax
namespace Go.Proofs.Ytnkafjkcjpajgaa
open Go.RowKit
/-- what is returned where there is no value -/
def failC (g : Sc → Y → V) (y : Y) (s : Sc) : V := if y.kind = 9 then (match y.args with | [z] => .mk 8 0 ⟨#[]⟩ [g s z] | _ => V0) else V0
theorem failC_no {g : Sc → Y → V} {ky : Int} {ny : ByteArray} {ly : List Y} {s : Sc} (h : ¬ ky = 9) : failC g (.mk ky ny ly) s = V0 := by unfold failC; exact if_neg h
theorem failC_9 {g : Sc → Y → V} {ny : ByteArray} {ly : List Y} {s : Sc} (h : ¬ ly.length = 1) : failC g (.mk 9 ny ly) s = V0 := by
  unfold failC
  simp only [Y.kind, Y.args, if_true]
  split
  · exact absurd rfl h
  · rfl
theorem cell_one {f : Y → Option V} {z : Y} : cellOf f [z] = match f z with | none => none | some v => some (.mk 8 0 ⟨#[]⟩ [v]) := by
  unfold cellOf
  simp only [List.length_cons, List.length_nil, if_true, allOf]
  cases f z <;> rfl
theorem list_one {α : Type} {l : List α} (h : l.length = 1) : ∃ z, l = [z] := match l, h with | [z], _ => ⟨z, rfl⟩
theorem any_snoc {l : List Mk} {i : Nat} {m : Mk} (hm : l[i]? = some m) (n : ByteArray) : (l.take (i + 1)).any (fun x => decide (x.name = n)) = ((l.take i).any (fun x => decide (x.name = n)) || decide (m.name = n)) := by
  obtain ⟨h1, rfl⟩ := List.getElem?_eq_some_iff.1 hm
  rw [List.take_succ_eq_append_getElem h1, List.any_append]
  simp
/-- which names were met -/
def Met (l : List Mk) (L : List (ByteArray × T)) : Prop := ∀ n, mget n L = if l.any (fun x => decide (x.name = n)) then some (.lit (.bool true)) else none
theorem met_look {l : List Mk} {L : List (ByteArray × T)} (h : Met l L) (n : ByteArray) : (mget n L).getD (.lit (.bool false)) = .lit (.bool (l.any (fun x => decide (x.name = n)))) := by
  rw [h n]
  cases l.any (fun x => decide (x.name = n)) <;> rfl
theorem met_old {l : List Mk} {L : List (ByteArray × T)} {i : Nat} {m : Mk} (h : Met (l.take i) L) (hm : l[i]? = some m) (ha : (l.take i).any (fun x => decide (x.name = m.name)) = true) : Met (l.take (i + 1)) L := by
  intro n
  rw [h n, any_snoc hm]
  by_cases he : m.name = n
  · subst he; simp [ha]
  · simp [he]
theorem met_new {l : List Mk} {L : List (ByteArray × T)} {i : Nat} {m : Mk} (h : Met (l.take i) L) (hm : l[i]? = some m) : Met (l.take (i + 1)) (mput m.name (.lit (.bool true)) L) := by
  intro n
  rw [mget_put, h n, any_snoc hm]
  by_cases he : m.name = n
  · subst he; simp
  · simp [he, Ne.symm he]
set_option maxRecDepth 100000 in
set_option maxHeartbeats 16000000 in
theorem firstRS_af (p : Pr) (d : Nat) (hd : d < 3) (f : Sc → Y → Option V) (g : Sc → Y → V) (hg : ∀ s y v, f s y = some v → g s y = v)
    (hf : ∀ (y : Y) (s : Sc), AF Try.prog 107 [p.t, y.t, s.t, .lit (.int .i64 (d : Int))] (· = .tup [(g s y).t, .lit (.bool (f s y).isSome)])) (y : Y) (s : Sc) :
    AF Try.prog 107 [p.t, y.t, s.t, .lit (.int .i64 ((d + 1 : Nat) : Int))] (· = firstT (firstAt p (some f) (res y s).1 (res y s).2) (failC g (mean y s).1 (mean y s).2)) := by
  have hr := meant_af y s
  rw [firstAt_mean]
  generalize mean y s = r at *
  obtain ⟨⟨ky, ny, ly⟩, s'⟩ := r
  dsimp only at hr ⊢
  have hfb := firstAt_b (p := p) (sub := some f) (ky := ky) (ny := ny) (ly := ly) (s := s')
  have hf0 := firstAt_0 (p := p) (f := f) (ky := ky) (ny := ny) (ly := ly) (s := s')
  have hf9 := firstAt_9 (p := p) (f := f) (ny := ny) (ly := ly) (s := s')
  have hf6 := firstAt_6 (p := p) (f := f) (ny := ny) (ly := ly) (s := s')
  have hu6 : p.under (.mk 6 ny ly) s' = underOf (p.datas.find? fun d : Da => decide (d.name = ny)) ly s' := rfl
  rw [hu6] at hf6
  have hdo := dataOf_af p ny
  have hbi := basic_iff ky
  obtain ⟨k0, n0, l0⟩ := y
  obtain ⟨pn, pv, us, das, trs, ims, fus, acs⟩ := p
  dsimp only at hf6 hdo
  have dd : decide (((d + 1 : Nat) : Int) < 1) = false := by simp; omega
  refine af_enter tok Try.func107 Try.ntmps107 Try.results107 rfl (by kernel_rfl) rfl rfl fun F hX => ?_
  repeat (first | refine gG ?_ | refine zN1 (fun hlen => ?_) | refine zN2 (fun hlen => ?_) | refine zAl (fun _ => ?_) | refine zBx (fun _ => ?_) | refine zAp (fun _ => ?_))
  refine zCall (hr) ?_
  rintro _ rfl
  rename_i b0 b1 b2
  by_cases kb : ky = 1 ∨ ky = 2 ∨ ky = 3 ∨ ky = 4
  · rw [hfb (hbi.2 kb)]
    clear hfb hf0 hf9 hf6 hbi
    rcases kb with rfl | rfl | rfl | rfl
    · repeat (first | refine gG ?_ | refine zN1 (fun hlen => ?_) | refine zN2 (fun hlen => ?_) | refine zAl (fun _ => ?_) | refine zBx (fun _ => ?_) | refine zAp (fun _ => ?_))
      refine zIx 1 (show 1 < 5 by omega) ?_
      repeat (first | refine gG ?_ | refine zN1 (fun hlen => ?_) | refine zN2 (fun hlen => ?_) | refine zAl (fun _ => ?_) | refine zBx (fun _ => ?_) | refine zAp (fun _ => ?_))
      first | refine zR (ts := [(V.mk 2 0 ⟨#[]⟩ []).t, .lit (.bool true)]) ?_ | refine zQ (ts := [(V.mk 2 0 ⟨#[]⟩ []).t, .lit (.bool true)]) ?_
      rfl
    · repeat (first | refine gG ?_ | refine zN1 (fun hlen => ?_) | refine zN2 (fun hlen => ?_) | refine zAl (fun _ => ?_) | refine zBx (fun _ => ?_) | refine zAp (fun _ => ?_))
      refine zIx 2 (show 2 < 5 by omega) ?_
      repeat (first | refine gG ?_ | refine zN1 (fun hlen => ?_) | refine zN2 (fun hlen => ?_) | refine zAl (fun _ => ?_) | refine zBx (fun _ => ?_) | refine zAp (fun _ => ?_))
      first | refine zR (ts := [(V.mk 3 0 ⟨#[]⟩ []).t, .lit (.bool true)]) ?_ | refine zQ (ts := [(V.mk 3 0 ⟨#[]⟩ []).t, .lit (.bool true)]) ?_
      rfl
    · repeat (first | refine gG ?_ | refine zN1 (fun hlen => ?_) | refine zN2 (fun hlen => ?_) | refine zAl (fun _ => ?_) | refine zBx (fun _ => ?_) | refine zAp (fun _ => ?_))
      refine zIx 3 (show 3 < 5 by omega) ?_
      repeat (first | refine gG ?_ | refine zN1 (fun hlen => ?_) | refine zN2 (fun hlen => ?_) | refine zAl (fun _ => ?_) | refine zBx (fun _ => ?_) | refine zAp (fun _ => ?_))
      first | refine zR (ts := [(V.mk 4 0 ⟨#[]⟩ []).t, .lit (.bool true)]) ?_ | refine zQ (ts := [(V.mk 4 0 ⟨#[]⟩ []).t, .lit (.bool true)]) ?_
      rfl
    · repeat (first | refine gG ?_ | refine zN1 (fun hlen => ?_) | refine zN2 (fun hlen => ?_) | refine zAl (fun _ => ?_) | refine zBx (fun _ => ?_) | refine zAp (fun _ => ?_))
      refine zIx 4 (show 4 < 5 by omega) ?_
      repeat (first | refine gG ?_ | refine zN1 (fun hlen => ?_) | refine zN2 (fun hlen => ?_) | refine zAl (fun _ => ?_) | refine zBx (fun _ => ?_) | refine zAp (fun _ => ?_))
      first | refine zR (ts := [(V.mk 1 0 ⟨#[]⟩ []).t, .lit (.bool true)]) ?_ | refine zQ (ts := [(V.mk 1 0 ⟨#[]⟩ []).t, .lit (.bool true)]) ?_
      rfl
  have e1 : decide (ky = 1) = false := by simpa using fun h => kb (.inl h)
  have e2 : decide (ky = 2) = false := by simpa using fun h => kb (.inr (.inl h))
  have e3 : decide (ky = 3) = false := by simpa using fun h => kb (.inr (.inr (.inl h)))
  have e4 : decide (ky = 4) = false := by simpa using fun h => kb (.inr (.inr (.inr h)))
  have hnb : ¬ 0 < basicOf ky := fun h => kb (hbi.1 h)
  by_cases k9 : ky = 9
  · subst k9
    rw [hf9]
    cases d2 : decide ((ly.length : Int) = 1)
    · have hl : ¬ ly.length = 1 := by have := of_decide_eq_false d2; omega
      have hc0 : cellOf (f s') ly = none := if_neg hl
      rw [hc0, failC_9 hl]
      repeat (first | refine gG ?_ | refine zN1 (fun hlen => ?_) | refine zN2 (fun hlen => ?_) | refine zAl (fun _ => ?_) | refine zBx (fun _ => ?_) | refine zAp (fun _ => ?_))
      first | refine zR (ts := [V0.t, .lit (.bool false)]) ?_ | refine zQ (ts := [V0.t, .lit (.bool false)]) ?_
      rfl
    · have hl : ly.length = 1 := by have := of_decide_eq_true d2; omega
      obtain ⟨z, rfl⟩ := list_one hl
      rw [cell_one]
      have hc := hf z s'
      have hgz := hg s' z
      have hres : firstT (match f s' z with | none => none | some v => some (V.mk 8 0 ⟨#[]⟩ [v])) (failC g (.mk 9 ny [z]) s') = .tup [(V.mk 8 0 ⟨#[]⟩ [g s' z]).t, .lit (.bool (f s' z).isSome)] := by
        cases hv : f s' z with
        | none => rfl
        | some v => rw [hgz v hv]; rfl
      rw [hres]
      have hzt : ((Y.all [z]).drop (0 * 3)).take 3 = z.ts := Y.at (l := [z]) (k := 0) rfl
      obtain ⟨kz, nz, lz⟩ := z
      generalize g s' (.mk kz nz lz) = gv at *
      generalize (f s' (.mk kz nz lz)).isSome = fo at *
      obtain ⟨kg, ng, tg, lg⟩ := gv
      repeat (first | refine gG ?_ | refine zN1 (fun hlen => ?_) | refine zN2 (fun hlen => ?_) | refine zAl (fun _ => ?_) | refine zBx (fun _ => ?_) | refine zAp (fun _ => ?_))
      refine ac_draw [1, 1, 1, 1, 1, 1, 1, 1, 1, 1, 1, 0, 3, 2, 1] [0, 1, 2, 3, 4, 5, 6, 7, 8, 9, 10, 11, 12, 13, 14] (by kernel_rfl) (by kernel_rfl) ?_
      refine gW ?_
      apply w_q; (focus exact rfl); (focus exact rfl); focus (intro _; (refine zIx 0 (show 0 < 1 by omega) ?_); exact det_refl)
      apply w_q; (focus exact rfl); (focus exact rfl); focus (intro _; (refine zEl hzt (Y.ts_len _) ?_); exact det_refl)
      refine gW ?_
      apply w_q; (focus exact rfl); (focus exact rfl); focus (intro _; (refine lo_sub rfl rfl (r := ((d : Nat) : Int)) (by rw [IntWalk.i64_in _ (by omega)]; omega) ?_); exact det_refl)
      apply w_q; (focus exact rfl); (focus exact rfl); focus (intro _; (refine lo_call hc rfl (by repeat (first | exact rzs_nil | apply rzs_cons | exact rz_c | exact rz_nil rfl | apply rz_agg | exact rz_own rfl | apply rz_fn | exact rz_ptr rfl | apply rz_tup)) ?_; rintro _ rfl); exact det_refl)
      refine gW ?_
      apply w_a; (focus exact rfl); (focus exact rfl); refine v_alloc tok rfl rfl rfl (fun _ => rfl) (fun _ => ⟨⟨_, rfl⟩, ?_⟩)
      apply w_l; (focus exact rfl); (focus exact rfl); (refine zS ?_)
      refine gW ?_
      refine w_nil ?_
      repeat (first | refine gG ?_ | refine zN1 (fun hlen => ?_) | refine zN2 (fun hlen => ?_) | refine zAl (fun _ => ?_) | refine zBx (fun _ => ?_) | refine zAp (fun _ => ?_))
      first | refine zR (ts := [(V.mk 8 0 ⟨#[]⟩ [V.mk kg ng tg lg]).t, .lit (.bool fo)]) ?_ | refine zQ (ts := [(V.mk 8 0 ⟨#[]⟩ [V.mk kg ng tg lg]).t, .lit (.bool fo)]) ?_
      rfl
  rw [failC_no k9]
  by_cases k6 : ky = 6
  · subst k6
    rw [hf6]
    clear hf6 hu6 hfb hf0 hf9
    by_cases hneg : idxI (fun d : Da => decide (d.name = ny)) das < 0
    · rw [idxI_none hneg]
      generalize idxI (fun d : Da => decide (d.name = ny)) das = ix at *
      have d2 : decide (ix < 0) = true := by simpa using hneg
      repeat (first | refine gG ?_ | refine zN1 (fun hlen => ?_) | refine zN2 (fun hlen => ?_) | refine zAl (fun _ => ?_) | refine zBx (fun _ => ?_) | refine zAp (fun _ => ?_))
      refine zCall (hdo) ?_
      rintro _ rfl
      repeat (first | refine gG ?_ | refine zN1 (fun hlen => ?_) | refine zN2 (fun hlen => ?_) | refine zAl (fun _ => ?_) | refine zBx (fun _ => ?_) | refine zAp (fun _ => ?_))
      refine ac_draw [1, 1, 1, 1, 1, 1, 1, 1, 1, 1, 1, 1, 1, 1, 1, 1, 1, 1, 1] [0, 1, 2, 3, 4, 5, 6, 7, 8, 9, 10, 11, 12, 13, 14, 15, 16, 17, 18] (by kernel_rfl) (by kernel_rfl) ?_
      refine gW ?_
      refine w_nil ?_
      repeat (first | refine gG ?_ | refine zN1 (fun hlen => ?_) | refine zN2 (fun hlen => ?_) | refine zAl (fun _ => ?_) | refine zBx (fun _ => ?_) | refine zAp (fun _ => ?_))
      first | refine zR (ts := [V0.t, .lit (.bool false)]) ?_ | refine zQ (ts := [V0.t, .lit (.bool false)]) ?_
      rfl
    obtain ⟨i, da, hi, hda, hfd⟩ := idxI_some hneg
    rw [hi] at hdo
    rw [hfd]
    have hil : i < das.length := (List.getElem?_eq_some_iff.1 hda).1
    obtain ⟨dn, dps, mks⟩ := da
    have hp1 : (das.flatMap Da.ts)[i * 3 + 1]? = some (strRow dps) := part_at Da.ts 3 Da.ts_len hda rfl
    have hp2 : (das.flatMap Da.ts)[i * 3 + 2]? = some (Mk.row mks) := part_at Da.ts 3 Da.ts_len hda rfl
    have d2 : decide ((i : Int) < 0) = false := by simp
    dsimp only [underOf]
    clear hneg hi hfd
    cases f3 : decide ((dps.length : Int) = (ly.length : Int))
    · have hne : ¬ dps.length = ly.length := by have := of_decide_eq_false f3; omega
      rw [if_neg hne]
      repeat (first | refine gG ?_ | refine zN1 (fun hlen => ?_) | refine zN2 (fun hlen => ?_) | refine zAl (fun _ => ?_) | refine zBx (fun _ => ?_) | refine zAp (fun _ => ?_))
      refine zCall (hdo) ?_
      rintro _ rfl
      repeat (first | refine gG ?_ | refine zN1 (fun hlen => ?_) | refine zN2 (fun hlen => ?_) | refine zAl (fun _ => ?_) | refine zBx (fun _ => ?_) | refine zAp (fun _ => ?_))
      refine ac_draw [1, 1, 1, 1, 1, 1, 1, 1, 1, 1, 1, 1, 1, 1, 1, 1, 1, 1, 1] [0, 1, 2, 3, 4, 5, 6, 7, 8, 9, 10, 11, 12, 13, 14, 15, 16, 17, 18] (by kernel_rfl) (by kernel_rfl) ?_
      refine gW ?_
      try (first | (apply w_un; (focus exact rfl); (focus exact rfl); (focus exact rfl); (focus exact rfl)) | (apply w_no; (focus exact rfl); (focus exact rfl); (focus exact rfl); (focus exact rfl); focus (first | rfl | assumption | exact neg_t (by assumption) | exact neg_f (by assumption))) | (apply w_qg; (focus exact rfl); (focus exact rfl); (focus exact rfl); (focus exact rfl); (focus (first | rfl | assumption | exact neg_t (by assumption) | exact neg_f (by assumption))); (focus (intro _; (refine zIx i hil ?_); exact det_refl))))
      try refine gW ?_
      try (first | (apply w_un; (focus exact rfl); (focus exact rfl); (focus exact rfl); (focus exact rfl)) | (apply w_no; (focus exact rfl); (focus exact rfl); (focus exact rfl); (focus exact rfl); focus (first | rfl | assumption | exact neg_t (by assumption) | exact neg_f (by assumption))) | (apply w_qg; (focus exact rfl); (focus exact rfl); (focus exact rfl); (focus exact rfl); (focus (first | rfl | assumption | exact neg_t (by assumption) | exact neg_f (by assumption))); (focus (intro _; (refine zEl1 hp1 ?_); exact det_refl))))
      try refine gW ?_
      refine w_nil ?_
      repeat (first | refine gG ?_ | refine zN1 (fun hlen => ?_) | refine zN2 (fun hlen => ?_) | refine zAl (fun _ => ?_) | refine zBx (fun _ => ?_) | refine zAp (fun _ => ?_))
      first | refine zR (ts := [V0.t, .lit (.bool false)]) ?_ | refine zQ (ts := [V0.t, .lit (.bool false)]) ?_
      rfl
    have heq : dps.length = ly.length := by have := of_decide_eq_true f3; omega
    rw [if_pos heq]
    dsimp only [dataFirst]
    repeat (first | refine gG ?_ | refine zN1 (fun hlen => ?_) | refine zN2 (fun hlen => ?_) | refine zAl (fun _ => ?_) | refine zBx (fun _ => ?_) | refine zAp (fun _ => ?_))
    refine zCall (hdo) ?_
    rintro _ rfl
    repeat (first | refine gG ?_ | refine zN1 (fun hlen => ?_) | refine zN2 (fun hlen => ?_) | refine zAl (fun _ => ?_) | refine zBx (fun _ => ?_) | refine zAp (fun _ => ?_))
    refine ac_draw [1, 1, 1, 1, 1, 1, 1, 1, 1, 1, 1, 1, 1, 1, 1, 1, 1, 1, 1] [0, 1, 2, 3, 4, 5, 6, 7, 8, 9, 10, 11, 12, 13, 14, 15, 16, 17, 18] (by kernel_rfl) (by kernel_rfl) ?_
    refine gW ?_
    try (first | (apply w_un; (focus exact rfl); (focus exact rfl); (focus exact rfl); (focus exact rfl)) | (apply w_no; (focus exact rfl); (focus exact rfl); (focus exact rfl); (focus exact rfl); focus (first | rfl | assumption | exact neg_t (by assumption) | exact neg_f (by assumption))) | (apply w_qg; (focus exact rfl); (focus exact rfl); (focus exact rfl); (focus exact rfl); (focus (first | rfl | assumption | exact neg_t (by assumption) | exact neg_f (by assumption))); (focus (intro _; (refine zIx i hil ?_); exact det_refl))))
    try refine gW ?_
    try (first | (apply w_un; (focus exact rfl); (focus exact rfl); (focus exact rfl); (focus exact rfl)) | (apply w_no; (focus exact rfl); (focus exact rfl); (focus exact rfl); (focus exact rfl); focus (first | rfl | assumption | exact neg_t (by assumption) | exact neg_f (by assumption))) | (apply w_qg; (focus exact rfl); (focus exact rfl); (focus exact rfl); (focus exact rfl); (focus (first | rfl | assumption | exact neg_t (by assumption) | exact neg_f (by assumption))); (focus (intro _; (refine zEl1 hp1 ?_); exact det_refl))))
    try refine gW ?_
    refine w_nil ?_
    repeat (first | refine gG ?_ | refine zN1 (fun hlen => ?_) | refine zN2 (fun hlen => ?_) | refine zAl (fun _ => ?_) | refine zBx (fun _ => ?_) | refine zAp (fun _ => ?_))
    refine zMm (fun bm => ?_)
    repeat (first | refine gG ?_ | refine zN1 (fun hlen => ?_) | refine zN2 (fun hlen => ?_) | refine zAl (fun _ => ?_) | refine zBx (fun _ => ?_) | refine zAp (fun _ => ?_))
    refine zIx i hil ?_
    repeat (first | refine gG ?_ | refine zN1 (fun hlen => ?_) | refine zN2 (fun hlen => ?_) | refine zAl (fun _ => ?_) | refine zBx (fun _ => ?_) | refine zAp (fun _ => ?_))
    refine zEl1 hp2 ?_
    repeat (first | refine gG ?_ | refine zN1 (fun hlen => ?_) | refine zN2 (fun hlen => ?_) | refine zAl (fun _ => ?_) | refine zBx (fun _ => ?_) | refine zAp (fun _ => ?_))
    refine x_loop [9, 15, 16, 17, 19, 20, 21, 102, 103, 104, 105, 106, 107, 108, 109, 110, 111, 112, 113, 114, 115, 116, 117, 118, 119, 120, 121, 122, 123, 124, 125, 126, 127, 128, 129, 130, 131, 132, 133, 134, 135, 136, 137, 138, 139, 140, 141, 142, 143, 144, 145, 146, 147, 148, 149, 150, 151, 152, 153, 154, 155, 156, 157, 158] (fun q : Nat × List (ByteArray × T) => [(102, .c (.lit (.int .i64 q.1)))]) (fun q => [.box b0 66 [.c (.lit (.string pn)), .c (.lit (.int .i64 pv)), .c (Us.row us), .c (Da.row das), .c (Tr.row trs), .c (Im.row ims), .c (Fu.row fus), .c (Ac.row acs)], .box b1 69 ((Y.mk 6 ny ly).ts.map .c), .box b2 148 [.c (.lit (.int .i64 0)), .c (.lit (.int .i64 0)), .c (.lit (.string ⟨#[]⟩)), .c (.lit (.slice none 0 0))], .mp bm (mkeys Value.string q.2)])
      (fun q => q.1 ≤ mks.length ∧ Met (mks.take q.1) q.2 ∧ pickMk (mkOf (f (.mk dps ly s'))) [] mks = pickMk (mkOf (f (.mk dps ly s'))) (mks.take q.1) (mks.drop q.1)) (fun q => mks.length - q.1) (0, []) ⟨Nat.zero_le _, fun _ => rfl, rfl⟩ ⟨rfl, trivial⟩ rfl ?_
    rintro ⟨j, Lm⟩ ⟨hj, hmet, hpk⟩
    dsimp only at hj hmet hpk ⊢
    repeat (first | refine gG ?_ | refine zN1 (fun hlen => ?_) | refine zN2 (fun hlen => ?_) | refine zAl (fun _ => ?_) | refine zBx (fun _ => ?_) | refine zAp (fun _ => ?_))
    refine x_cond rfl (fun h => ?_) (fun h => ?_)
    · have hj' : j < mks.length := by simpa using h
      obtain ⟨m, hm⟩ := nth hj'
      have hst := pickMk_at (q := mkOf (f (.mk dps ly s'))) hm
      have hlk := met_look hmet m.name
      have hold := met_old hmet hm
      have hnew := met_new hmet hm
      repeat (first | refine gG ?_ | refine zN1 (fun hlen => ?_) | refine zN2 (fun hlen => ?_) | refine zAl (fun _ => ?_) | refine zBx (fun _ => ?_) | refine zAp (fun _ => ?_))
      refine zIx (j) (hj') ?_
      repeat (first | refine gG ?_ | refine zN1 (fun hlen => ?_) | refine zN2 (fun hlen => ?_) | refine zAl (fun _ => ?_) | refine zBx (fun _ => ?_) | refine zAp (fun _ => ?_))
      refine zEl (Mk.at hm) (Mk.ts_len m) ?_
      obtain ⟨mn, ma⟩ := m
      dsimp only at hst hlk hold hnew
      cases hag : (mks.take j).any (fun x => decide (x.name = mn))
      · rw [hag] at hst hlk
        simp only [Bool.false_eq_true, if_false] at hst
        clear hold
        repeat (first | refine gG ?_ | refine zN1 (fun hlen => ?_) | refine zN2 (fun hlen => ?_) | refine zAl (fun _ => ?_) | refine zBx (fun _ => ?_) | refine zAp (fun _ => ?_))
        refine zLks 9 4 hlk ?_
        repeat (first | refine gG ?_ | refine zN1 (fun hlen => ?_) | refine zN2 (fun hlen => ?_) | refine zAl (fun _ => ?_) | refine zBx (fun _ => ?_) | refine zAp (fun _ => ?_))
        refine zUps 9 4 ?_
        repeat (first | refine gG ?_ | refine zN1 (fun hlen => ?_) | refine zN2 (fun hlen => ?_) | refine zAl (fun _ => ?_) | refine zBx (fun _ => ?_) | refine zAp (fun _ => ?_))
        rename_i b4 _ b5
        refine x_own_cell 5 3 148 4 rfl rfl rfl rfl rfl rfl ?_
        refine x_loop [16, 19, 20, 21, 123, 124, 125, 126, 127, 128, 129, 130, 131, 132, 133, 134, 135, 136, 137, 138, 139, 140, 141, 142, 143, 144, 145, 146, 147, 148, 149, 150, 151, 152, 153, 154, 155] (fun q : Nat × Bool × Value × List V => [(123, .c (.lit (.int .i64 q.1))), (16, .c (.lit (.bool q.2.1)))]) (fun q => [.box b0 66 [.c (.lit (.string pn)), .c (.lit (.int .i64 pv)), .c (Us.row us), .c (Da.row das), .c (Tr.row trs), .c (Im.row ims), .c (Fu.row fus), .c (Ac.row acs)], .box b1 69 ((Y.mk 6 ny ly).ts.map .c), .box b2 148 [.c (.lit (.int .i64 0)), .c (.lit (.int .i64 0)), .c (.lit (.string ⟨#[]⟩)), .c (.lit (.slice none 0 0))], .mp bm (mkeys Value.string (mput mn (.lit (.bool true)) Lm)), .box b4 137 [.c (.lit (.string mn)), .c (Y.row ma)], .box b5 148 [.c (.lit (.int .i64 5)), .c (.lit (.int .i64 0)), .c (.lit (.string mn)), .own 6 q.2.2.1], .row q.2.2.1 148 4 q.2.2.2.length (V.all q.2.2.2)])
          (fun q => q.1 ≤ ma.length ∧ (q.2.1 = true → ma.length ≤ 6 ∧ q.2.2.2.length = q.1 ∧ allOf (f (.mk dps ly s')) ma = preOf q.2.2.2 (allOf (f (.mk dps ly s')) (ma.drop q.1))) ∧ (q.2.1 = false → mkOf (f (.mk dps ly s')) ⟨mn, ma⟩ = none)) (fun q => ma.length - q.1) (0, decide ((ma.length : Int) ≤ 6), .slice none 0 0, [])
          ⟨Nat.zero_le _, fun h => ⟨by have := of_decide_eq_true h; omega, rfl, by simp only [List.drop_zero]; cases allOf (f (.mk dps ly s')) ma <;> rfl⟩, fun h => mkOf_big (by have := of_decide_eq_false h; omega)⟩ ⟨rfl, rfl, trivial⟩ rfl ?_
        rintro ⟨a, okb, v, vs⟩ ⟨ha, hok, hno⟩
        dsimp only at ha hok hno ⊢
        repeat (first | refine gG ?_ | refine zN1 (fun hlen => ?_) | refine zN2 (fun hlen => ?_) | refine zAl (fun _ => ?_) | refine zBx (fun _ => ?_) | refine zAp (fun _ => ?_))
        refine x_cond rfl (fun h => ?_) (fun h => ?_)
        · have ha' : a < ma.length := by simpa using h
          obtain ⟨z, hz⟩ := nth ha'
          have hcz := hf z (.mk dps ly s')
          have hgz := hg (.mk dps ly s') z
          repeat (first | refine gG ?_ | refine zN1 (fun hlen => ?_) | refine zN2 (fun hlen => ?_) | refine zAl (fun _ => ?_) | refine zBx (fun _ => ?_) | refine zAp (fun _ => ?_))
          refine zIx (a) (ha') ?_
          repeat (first | refine gG ?_ | refine zN1 (fun hlen => ?_) | refine zN2 (fun hlen => ?_) | refine zAl (fun _ => ?_) | refine zBx (fun _ => ?_) | refine zAp (fun _ => ?_))
          refine zEl (Y.at hz) (Y.ts_len z) ?_
          cases okb
          · have hnn := hno rfl
            rw [hnn] at hst
            obtain ⟨kz, nz, lz⟩ := z
            repeat (first | refine gG ?_ | refine zN1 (fun hlen => ?_) | refine zN2 (fun hlen => ?_) | refine zAl (fun _ => ?_) | refine zBx (fun _ => ?_) | refine zAp (fun _ => ?_))
            exact ⟨(j + 1, mput mn (.lit (.bool true)) Lm), ⟨hj', hnew, hpk.trans hst⟩, by simp only; omega, x_wkd 4 ⟨rfl, trivial⟩ rfl (by repeat (first | exact ag_refl | refine ag_upd rfl ?_ | refine ag_at rfl rfl ?_))⟩
          · obtain ⟨hl6, hvl, hall⟩ := hok rfl
            have hstep := allOf_at hall hz
            obtain ⟨kz, nz, lz⟩ := z
            cases hfo : f (.mk dps ly s') (.mk kz nz lz) with
            | none =>
              rw [hfo] at hcz
              have hmn : mkOf (f (.mk dps ly s')) ⟨mn, ma⟩ = none := mkOf_none (hstep.1 hfo)
              generalize g (.mk dps ly s') (.mk kz nz lz) = gv at hcz
              obtain ⟨kg, ng, tg, lg⟩ := gv
              cases s'
              all_goals (
                repeat (first | refine gG ?_ | refine zN1 (fun hlen => ?_) | refine zN2 (fun hlen => ?_) | refine zAl (fun _ => ?_) | refine zBx (fun _ => ?_) | refine zAp (fun _ => ?_))
                refine ac_drawB [0, 0, 0, 4, 0, 28, 60, 124, 0, 256, 0, 2044, 4092, 0, 8192, 32767, 65535, 131071, 131071, 0, 786431, 2097151] [1, 1, 1, 1, 1, 1, 1, 1, 1, 1, 1, 1, 1, 1, 1, 1, 1, 1, 0, 3, 2, 1] [0, 1, 2, 3, 4, 5, 6, 7, 8, 9, 10, 11, 12, 13, 14, 15, 16, 17, 18, 19, 20, 21] (by kernel_rfl) (by kernel_rfl) ?_
                refine gW ?_
                apply w_q; (focus exact rfl); (focus exact rfl); focus (intro _; (refine zIx i hil ?_); exact det_refl)
                refine gW ?_
                apply w_q; (focus exact rfl); (focus exact rfl); focus (intro _; (refine zEl1 hp1 ?_); exact det_refl)
                refine gW ?_
                apply w_q; (focus exact rfl); (focus exact rfl); focus (intro _; (refine zBf ?_); exact det_refl)
                refine gW ?_
                apply w_q; (focus exact rfl); (focus exact rfl); focus (intro _; (refine lo_sub rfl rfl (r := ((d : Nat) : Int)) (by rw [IntWalk.i64_in _ (by omega)]; omega) ?_); exact det_refl)
                apply w_q; (focus exact rfl); (focus exact rfl); focus (intro _; (refine lo_call hcz rfl (by repeat (first | exact rzs_nil | apply rzs_cons | exact rz_c | exact rz_nil rfl | apply rz_agg | exact rz_own rfl | apply rz_fn | exact rz_ptr rfl | apply rz_tup)) ?_; rintro _ rfl); exact det_refl)
                refine gW ?_
                apply w_a; (focus exact rfl); (focus exact rfl); refine v_alloc tok rfl rfl rfl (fun _ => rfl) (fun _ => ⟨⟨_, rfl⟩, ?_⟩)
                apply w_l; (focus exact rfl); (focus exact rfl); (refine zS ?_)
                refine gW ?_
                refine w_nil ?_
                repeat (first | refine gG ?_ | refine zN1 (fun hlen => ?_) | refine zN2 (fun hlen => ?_) | refine zAl (fun _ => ?_) | refine zBx (fun _ => ?_) | refine zAp (fun _ => ?_))
                exact ⟨(a + 1, false, _, vs ++ [.mk kg ng tg lg]), ⟨ha', (fun h => by cases h), fun _ => hmn⟩, by simp only; omega, x_wkd 7 ⟨rfl, rfl, trivial⟩ (by simp only [V.all_app, V.all_one, List.length_append, List.length_cons, List.length_nil]; rfl) (by repeat (first | exact ag_refl | refine ag_upd rfl ?_ | refine ag_at rfl rfl ?_))⟩)
            | some r =>
              rw [hfo] at hcz
              have hge := hgz r hfo
              rw [hge] at hcz
              have hst2 := hstep.2 r hfo
              obtain ⟨kg, ng, tg, lg⟩ := r
              cases s'
              all_goals (
                repeat (first | refine gG ?_ | refine zN1 (fun hlen => ?_) | refine zN2 (fun hlen => ?_) | refine zAl (fun _ => ?_) | refine zBx (fun _ => ?_) | refine zAp (fun _ => ?_))
                refine ac_drawB [0, 0, 0, 4, 0, 28, 60, 124, 0, 256, 0, 2044, 4092, 0, 8192, 32767, 65535, 131071, 131071, 0, 786431, 2097151] [1, 1, 1, 1, 1, 1, 1, 1, 1, 1, 1, 1, 1, 1, 1, 1, 1, 1, 0, 3, 2, 1] [0, 1, 2, 3, 4, 5, 6, 7, 8, 9, 10, 11, 12, 13, 14, 15, 16, 17, 18, 19, 20, 21] (by kernel_rfl) (by kernel_rfl) ?_
                refine gW ?_
                apply w_q; (focus exact rfl); (focus exact rfl); focus (intro _; (refine zIx i hil ?_); exact det_refl)
                refine gW ?_
                apply w_q; (focus exact rfl); (focus exact rfl); focus (intro _; (refine zEl1 hp1 ?_); exact det_refl)
                refine gW ?_
                apply w_q; (focus exact rfl); (focus exact rfl); focus (intro _; (refine zBf ?_); exact det_refl)
                refine gW ?_
                apply w_q; (focus exact rfl); (focus exact rfl); focus (intro _; (refine lo_sub rfl rfl (r := ((d : Nat) : Int)) (by rw [IntWalk.i64_in _ (by omega)]; omega) ?_); exact det_refl)
                apply w_q; (focus exact rfl); (focus exact rfl); focus (intro _; (refine lo_call hcz rfl (by repeat (first | exact rzs_nil | apply rzs_cons | exact rz_c | exact rz_nil rfl | apply rz_agg | exact rz_own rfl | apply rz_fn | exact rz_ptr rfl | apply rz_tup)) ?_; rintro _ rfl); exact det_refl)
                refine gW ?_
                apply w_a; (focus exact rfl); (focus exact rfl); refine v_alloc tok rfl rfl rfl (fun _ => rfl) (fun _ => ⟨⟨_, rfl⟩, ?_⟩)
                apply w_l; (focus exact rfl); (focus exact rfl); (refine zS ?_)
                refine gW ?_
                refine w_nil ?_
                repeat (first | refine gG ?_ | refine zN1 (fun hlen => ?_) | refine zN2 (fun hlen => ?_) | refine zAl (fun _ => ?_) | refine zBx (fun _ => ?_) | refine zAp (fun _ => ?_))
                exact ⟨(a + 1, true, _, vs ++ [.mk kg ng tg lg]), ⟨ha', (fun _ => ⟨hl6, by simp [hvl], hst2⟩), fun h => by cases h⟩, by simp only; omega, x_wkd 7 ⟨rfl, rfl, trivial⟩ (by simp only [V.all_app, V.all_one, List.length_append, List.length_cons, List.length_nil]; rfl) (by repeat (first | exact ag_refl | refine ag_upd rfl ?_ | refine ag_at rfl rfl ?_))⟩)
        · have ha' : ma.length ≤ a := by have : ¬ a < ma.length := by simpa using h
                                         omega
          cases okb
          · have hnn := hno rfl
            rw [hnn] at hst
            repeat (first | refine gG ?_ | refine zN1 (fun hlen => ?_) | refine zN2 (fun hlen => ?_) | refine zAl (fun _ => ?_) | refine zBx (fun _ => ?_) | refine zAp (fun _ => ?_))
            exact ⟨(j + 1, mput mn (.lit (.bool true)) Lm), ⟨hj', hnew, hpk.trans hst⟩, by simp only; omega, x_wkd 4 ⟨rfl, trivial⟩ rfl (by repeat (first | exact ag_refl | refine ag_upd rfl ?_ | refine ag_at rfl rfl ?_))⟩
          · obtain ⟨hl6, hvl, hall⟩ := hok rfl
            have hend := allOf_end hall ha'
            have hms : mkOf (f (.mk dps ly s')) ⟨mn, ma⟩ = some (.mk 5 0 mn vs) := mkOf_some (by omega) hend
            rw [hms] at hst
            rw [hpk, hst]
            repeat (first | refine gG ?_ | refine zN1 (fun hlen => ?_) | refine zN2 (fun hlen => ?_) | refine zAl (fun _ => ?_) | refine zBx (fun _ => ?_) | refine zAp (fun _ => ?_))
            first | refine zR (ts := [(V.mk 5 0 mn vs).t, .lit (.bool true)]) ?_ | refine zQ (ts := [(V.mk 5 0 mn vs).t, .lit (.bool true)]) ?_
            rfl
      · rw [hag] at hst hlk
        simp only [if_true] at hst
        repeat (first | refine gG ?_ | refine zN1 (fun hlen => ?_) | refine zN2 (fun hlen => ?_) | refine zAl (fun _ => ?_) | refine zBx (fun _ => ?_) | refine zAp (fun _ => ?_))
        refine zLks 9 4 hlk ?_
        repeat (first | refine gG ?_ | refine zN1 (fun hlen => ?_) | refine zN2 (fun hlen => ?_) | refine zAl (fun _ => ?_) | refine zBx (fun _ => ?_) | refine zAp (fun _ => ?_))
        exact ⟨(j + 1, Lm), ⟨hj', hold hag, hpk.trans hst⟩, by simp only; omega, x_wkd 4 ⟨rfl, trivial⟩ rfl (by repeat (first | exact ag_refl | refine ag_upd rfl ?_ | refine ag_at rfl rfl ?_))⟩
    · have hj' : j = mks.length := by have : ¬ j < mks.length := by simpa using h
                                      omega
      have hnone : pickMk (mkOf (f (.mk dps ly s'))) [] mks = none := by rw [hpk, hj', List.drop_length, pickMk]
      rw [hnone]
      repeat (first | refine gG ?_ | refine zN1 (fun hlen => ?_) | refine zN2 (fun hlen => ?_) | refine zAl (fun _ => ?_) | refine zBx (fun _ => ?_) | refine zAp (fun _ => ?_))
      first | refine zR (ts := [V0.t, .lit (.bool false)]) ?_ | refine zQ (ts := [V0.t, .lit (.bool false)]) ?_
      rfl
  have e9 : decide (ky = 9) = false := by simpa using k9
  have e6 : decide (ky = 6) = false := by simpa using k6
  rw [hf0 hnb k9 k6]
  repeat (first | refine gG ?_ | refine zN1 (fun hlen => ?_) | refine zN2 (fun hlen => ?_) | refine zAl (fun _ => ?_) | refine zBx (fun _ => ?_) | refine zAp (fun _ => ?_))
  first | refine zR (ts := [V0.t, .lit (.bool false)]) ?_ | refine zQ (ts := [V0.t, .lit (.bool false)]) ?_
  rfl
end Go.Proofs.Ytnkafjkcjpajgaa
namespace Go.Proofs.Ytnkafjkcjpajgaa
open Go.RowKit
def Ar.pat : Ar → V
  | .mk p _ => p
def Ar.body : Ar → Ex
  | .mk _ b => b
def Ex.arms : Ex → List Ar
  | .mk _ _ _ _ _ _ rs _ => rs
def Ex.args : Ex → List Ex
  | .mk _ _ _ _ _ l _ _ => l
def Ex.types : Ex → List Y
  | .mk _ _ _ _ ys _ _ _ => ys
def Ex.nexts (e : Ex) : List Ex := e.args ++ e.arms.map Ar.body
def Ex.pats (e : Ex) : List V := e.arms.map Ar.pat
theorem Ex.sizes_app (l r : List Ex) : Ex.sizes (l ++ r) = Ex.sizes l + Ex.sizes r := by
  induction l with
  | nil => simp [Ex.sizes]
  | cons v l ih => simp only [List.cons_append, Ex.sizes, ih]; omega
theorem Ar.sizes_parts : ∀ l : List Ar, Ex.sizes (l.map Ar.body) + V.sizes (l.map Ar.pat) = Ar.sizes l
  | [] => rfl
  | .mk p b :: l => by
    have := Ar.sizes_parts l
    simp only [List.map_cons, Ex.sizes, V.sizes, Ar.sizes, Ar.size, Ar.body, Ar.pat]
    omega
theorem Ex.sizes_flat : ∀ l : List Ex, Ex.sizes (l.flatMap Ex.nexts) + V.sizes (l.flatMap Ex.pats) + l.length ≤ Ex.sizes l
  | [] => by simp [Ex.sizes, V.sizes]
  | .mk k n t ns ys a rs p :: l => by
    have h1 := Ex.sizes_flat l
    have h2 := Ar.sizes_parts rs
    simp only [List.flatMap_cons, Ex.nexts, Ex.pats, Ex.args, Ex.arms, Ex.sizes_app, V.sizes_app, Ex.sizes, Ex.size, List.length_cons]
    omega
theorem Ex.take_sizes (l : List Ex) (k : Nat) : Ex.sizes (l.take k) ≤ Ex.sizes l := by
  have := Ex.sizes_app (l.take k) (l.drop k)
  rw [List.take_append_drop] at this
  omega
theorem map_snoc' {α β : Type} (f : α → β) {l : List α} {k : Nat} {a : α} (h : l[k]? = some a) : (l.take (k + 1)).map f = (l.take k).map f ++ [f a] := by
  obtain ⟨h1, rfl⟩ := List.getElem?_eq_some_iff.1 h
  rw [List.take_succ_eq_append_getElem h1, List.map_append]
  simp
set_option maxRecDepth 100000 in
set_option maxHeartbeats 4000000 in
theorem exprSmall_af (e : Ex) (hv : e.size ≤ 1048576) : AF Try.prog 73 [e.t] Tell := by
  obtain ⟨k0, n0, t0, ns0, ys0, l0, rs0, p0⟩ := e
  refine af_enter tok Try.func73 Try.ntmps73 Try.results73 rfl (by kernel_rfl) rfl rfl fun F hX => ?_
  repeat (first | refine gG ?_ | refine zN1 (fun hlen => ?_) | refine zN2 (fun hlen => ?_) | refine zAl (fun _ => ?_) | refine zBx (fun _ => ?_) | refine zAp (fun _ => ?_))
  refine x_drop 0 rfl ?_
  refine x_loop [2, 3, 4, 5, 6, 7, 9, 11, 12, 13, 15, 18, 19, 20, 21, 22, 23, 24, 25, 26, 27, 28, 29, 30, 31, 32, 33, 34, 35, 36, 37, 38, 39, 40, 41, 42, 43, 44, 45, 46, 47, 48, 49, 50, 51, 52, 53, 54, 55, 56, 57, 58, 59, 60, 61, 62, 63, 64, 65, 66, 67, 68, 69, 70, 71, 72, 73, 74, 75, 76, 77, 78, 79, 80, 81, 82, 83, 84, 85, 86, 87, 88, 89, 90, 91, 92, 93] (fun y : List Ex × Nat × Nat => [(3, .c (Ex.row y.1)), (4, .c (.lit (.int .i64 (y.2.1 : Nat)))), (5, .c (.lit (.int .i64 (y.2.2 : Nat))))]) (fun _ => [])
    (fun y => Ex.sizes y.1 ≤ 1048576 ∧ y.2.1 ≤ 3000 ∧ y.2.2 ≤ 101) (fun y => 102 - y.2.2) ([.mk k0 n0 t0 ns0 ys0 l0 rs0 p0], 0, 0) ⟨by simpa [Ex.sizes] using hv, by simp, by simp⟩ ⟨rfl, rfl, rfl, trivial⟩ rfl ?_
  rintro ⟨l, n, dp⟩ ⟨hl, hn, hdp⟩
  dsimp only at hl hn hdp ⊢
  have hll := Ex.len_sizes l
  repeat (first | refine gG ?_ | refine zN1 (fun hlen => ?_) | refine zN2 (fun hlen => ?_) | refine zAl (fun _ => ?_) | refine zBx (fun _ => ?_) | refine zAp (fun _ => ?_))
  refine x_cond rfl (fun h => ?_) (fun h => ?_)
  · repeat (first | refine gG ?_ | refine zN1 (fun hlen => ?_) | refine zN2 (fun hlen => ?_) | refine zAl (fun _ => ?_) | refine zBx (fun _ => ?_) | refine zAp (fun _ => ?_))
    refine lo_add rfl rfl (r := ((n + l.length : Nat) : Int)) (by rw [IntWalk.i64_in _ (by omega)]; omega) ?_
    cases d1 : decide ((100 : Int) < (dp : Int))
    · cases d2 : decide ((3000 : Int) < ((n + l.length : Nat) : Int))
      · have hd1 : ¬ (100 : Int) < (dp : Int) := of_decide_eq_false d1
        have hd2 : ¬ (3000 : Int) < ((n + l.length : Nat) : Int) := of_decide_eq_false d2
        repeat (first | refine gG ?_ | refine zN1 (fun hlen => ?_) | refine zN2 (fun hlen => ?_) | refine zAl (fun _ => ?_) | refine zBx (fun _ => ?_) | refine zAp (fun _ => ?_))
        refine x_own 6 73 8 rfl rfl rfl rfl rfl ?_
        refine x_own 7 186 4 rfl rfl rfl rfl rfl ?_
        refine x_loop [2, 6, 7, 9, 11, 35, 36, 37, 38, 39, 40, 41, 42, 43, 44, 45, 46, 47, 48, 49, 50, 51, 52, 53, 54, 55, 56, 57, 58, 59, 60, 61, 62, 63, 64, 65] (fun y : Nat × Value × Value => [(35, .c (.lit (.int .i64 (y.1 : Nat)))), (6, .own 0 y.2.1), (7, .own 1 y.2.2)])
          (fun y => [.row y.2.1 73 8 ((l.take y.1).flatMap Ex.nexts).length (Ex.all ((l.take y.1).flatMap Ex.nexts)), .row y.2.2 186 4 ((l.take y.1).flatMap Ex.pats).length (V.all ((l.take y.1).flatMap Ex.pats))])
          (fun y => y.1 ≤ l.length) (fun y => l.length - y.1) (0, .slice none 0 0, .slice none 0 0) (Nat.zero_le _) ⟨rfl, rfl, rfl, trivial⟩ rfl ?_
        rintro ⟨k, v, u⟩ hk
        dsimp only at hk ⊢
        repeat (first | refine gG ?_ | refine zN1 (fun hlen => ?_) | refine zN2 (fun hlen => ?_) | refine zAl (fun _ => ?_) | refine zBx (fun _ => ?_) | refine zAp (fun _ => ?_))
        refine x_cond rfl (fun h => ?_) (fun h => ?_)
        · have hk' : k < l.length := by simpa using h
          obtain ⟨a, ha⟩ := nth hk'
          have hsn := flat_snoc' Ex.nexts ha
          have hsp := flat_snoc' Ex.pats ha
          have hsz : ((l.take k).flatMap Ex.nexts).length + a.args.length + a.arms.length ≤ 1048576 ∧ ((l.take k).flatMap Ex.pats).length + a.arms.length ≤ 1048576 := by
            have h1 := Ex.len_sizes ((l.take (k + 1)).flatMap Ex.nexts)
            have h2 := Ex.sizes_flat (l.take (k + 1))
            have h3 := Ex.take_sizes l (k + 1)
            have h4 := V.len_sizes ((l.take (k + 1)).flatMap Ex.pats)
            rw [hsn] at h1 h2
            rw [hsp] at h2 h4
            simp only [List.length_append, Ex.nexts, Ex.pats, List.length_map] at h1 h4
            simp only [Ex.nexts, Ex.pats] at h2
            omega
          have has : Y.sizes a.types ≤ 1048576 := by
            have h1 := Ex.size_mem (List.mem_of_getElem? ha)
            obtain ⟨ka, na, ta, nsa, ysa, la, rsa, pa⟩ := a
            simp only [Ex.size] at h1
            simp only [Ex.types]
            omega
          have hts := typesSmall_af a.types has
          repeat (first | refine gG ?_ | refine zN1 (fun hlen => ?_) | refine zN2 (fun hlen => ?_) | refine zAl (fun _ => ?_) | refine zBx (fun _ => ?_) | refine zAp (fun _ => ?_))
          refine zIx (k) (hk') ?_
          repeat (first | refine gG ?_ | refine zN1 (fun hlen => ?_) | refine zN2 (fun hlen => ?_) | refine zAl (fun _ => ?_) | refine zBx (fun _ => ?_) | refine zAp (fun _ => ?_))
          refine zEl (Ex.at ha) (Ex.ts_len a) ?_
          obtain ⟨ka, na, ta, nsa, ysa, la, rsa, pa⟩ := a
          simp only [Ex.args, Ex.arms, Ex.types, Ex.nexts, Ex.pats] at hsz hsn hsp hts
          repeat (first | refine gG ?_ | refine zN1 (fun hlen => ?_) | refine zN2 (fun hlen => ?_) | refine zAl (fun _ => ?_) | refine zBx (fun _ => ?_) | refine zAp (fun _ => ?_))
          refine zCall (hts) ?_
          rintro _ ⟨b, rfl⟩
          cases b
          · repeat (first | refine gG ?_ | refine zN1 (fun hlen => ?_) | refine zN2 (fun hlen => ?_) | refine zAl (fun _ => ?_) | refine zBx (fun _ => ?_) | refine zAp (fun _ => ?_))
            first | refine zR ?_ | refine zQ ?_
            exact ⟨_, rfl⟩
          · repeat (first | refine gG ?_ | refine zN1 (fun hlen => ?_) | refine zN2 (fun hlen => ?_) | refine zAl (fun _ => ?_) | refine zBx (fun _ => ?_) | refine zAp (fun _ => ?_))
            refine x_drop 2 rfl ?_
            refine x_loop [6, 7, 11, 50, 51, 52, 53, 54, 55, 56, 57, 58, 59, 60, 61, 62, 63, 64] (fun y : Nat × Value × Value => [(50, .c (.lit (.int .i64 (y.1 : Nat)))), (6, .own 0 y.2.1), (7, .own 1 y.2.2)])
              (fun y => [.row y.2.1 73 8 (((l.take k).flatMap Ex.nexts).length + la.length + y.1) (Ex.all ((l.take k).flatMap Ex.nexts) ++ Ex.all la ++ Ex.all ((rsa.take y.1).map Ar.body)), .row y.2.2 186 4 (((l.take k).flatMap Ex.pats).length + y.1) (V.all ((l.take k).flatMap Ex.pats) ++ V.all ((rsa.take y.1).map Ar.pat))])
              (fun y => y.1 ≤ rsa.length) (fun y => rsa.length - y.1) (0, _, _) (Nat.zero_le _) ⟨rfl, rfl, rfl, trivial⟩ (by simp [Ex.all, V.all]) ?_
            rintro ⟨j, v', u'⟩ hj
            dsimp only at hj ⊢
            repeat (first | refine gG ?_ | refine zN1 (fun hlen => ?_) | refine zN2 (fun hlen => ?_) | refine zAl (fun _ => ?_) | refine zBx (fun _ => ?_) | refine zAp (fun _ => ?_))
            refine x_cond rfl (fun h => ?_) (fun h => ?_)
            · have hj' : j < rsa.length := by simpa using h
              obtain ⟨r, hr⟩ := nth hj'
              have hb1 := map_snoc' Ar.body hr
              have hb2 := map_snoc' Ar.pat hr
              repeat (first | refine gG ?_ | refine zN1 (fun hlen => ?_) | refine zN2 (fun hlen => ?_) | refine zAl (fun _ => ?_) | refine zBx (fun _ => ?_) | refine zAp (fun _ => ?_))
              refine zIx (j) (hj') ?_
              repeat (first | refine gG ?_ | refine zN1 (fun hlen => ?_) | refine zN2 (fun hlen => ?_) | refine zAl (fun _ => ?_) | refine zBx (fun _ => ?_) | refine zAp (fun _ => ?_))
              refine zEl (Ar.at hr) (Ar.ts_len r) ?_
              obtain ⟨⟨kp, np, tp, lp⟩, ⟨kb, nb, tb, nsb, ysb, lb, rsb, pb⟩⟩ := r
              repeat (first | refine gG ?_ | refine zN1 (fun hlen => ?_) | refine zN2 (fun hlen => ?_) | refine zAl (fun _ => ?_) | refine zBx (fun _ => ?_) | refine zAp (fun _ => ?_))
              exact ⟨(j + 1, _, _), hj', by simp only; omega, x_wkd 2 ⟨rfl, rfl, rfl, trivial⟩ (by simp only [hb1, hb2, Ex.all_app, V.all_app', List.append_assoc, Nat.add_assoc]; rfl) (by repeat (first | exact ag_refl | refine ag_upd rfl ?_ | refine ag_at rfl rfl ?_))⟩
            · have hj' : j = rsa.length := by have : ¬ j < rsa.length := by simpa using h
                                              omega
              subst hj'
              repeat (first | refine gG ?_ | refine zN1 (fun hlen => ?_) | refine zN2 (fun hlen => ?_) | refine zAl (fun _ => ?_) | refine zBx (fun _ => ?_) | refine zAp (fun _ => ?_))
              exact ⟨(k + 1, _, _), hk', by simp only; omega, x_wkd 2 ⟨rfl, rfl, rfl, trivial⟩ (by simp only [hsn, hsp, Ex.all_app, V.all_app', List.length_append, List.length_map, List.take_length, List.append_assoc, Nat.add_assoc]; rfl) (by repeat (first | exact ag_refl | refine ag_upd rfl ?_ | refine ag_at rfl rfl ?_))⟩
        · have hk' : k = l.length := by have : ¬ k < l.length := by simpa using h
                                        omega
          subst hk'
          rw [List.take_length]
          have hfl := Ex.sizes_flat l
          repeat (first | refine gG ?_ | refine zN1 (fun hlen => ?_) | refine zN2 (fun hlen => ?_) | refine zAl (fun _ => ?_) | refine zBx (fun _ => ?_) | refine zAp (fun _ => ?_))
          refine x_frz hX 7 rfl rfl rfl rfl ?_
          refine x_drop 1 rfl ?_
          refine x_loop [2, 4, 7, 12, 13, 15, 66, 67, 68, 69, 70, 71, 72, 73, 74, 75, 76, 77, 78, 79, 80, 81, 82, 83, 84, 85, 86, 87, 88, 89, 90, 91, 92] (fun y : List V × Nat × Nat => [(7, .c (V.row y.1)), (4, .c (.lit (.int .i64 (y.2.1 : Nat)))), (12, .c (.lit (.int .i64 (y.2.2 : Nat))))]) (fun _ => [.row v 73 8 (l.flatMap Ex.nexts).length (Ex.all (l.flatMap Ex.nexts))])
            (fun y => V.sizes y.1 ≤ 1048576 ∧ y.2.1 ≤ 3000 ∧ y.2.2 ≤ 101) (fun y => 102 - y.2.2) (l.flatMap Ex.pats, n + l.length, 0) ⟨by simp only; omega, by simp only; omega, by simp⟩ ⟨rfl, rfl, rfl, trivial⟩ rfl ?_
          rintro ⟨ps, m, dq⟩ ⟨hps, hm, hdq⟩
          dsimp only at hps hm hdq ⊢
          have hpl := V.len_sizes ps
          repeat (first | refine gG ?_ | refine zN1 (fun hlen => ?_) | refine zN2 (fun hlen => ?_) | refine zAl (fun _ => ?_) | refine zBx (fun _ => ?_) | refine zAp (fun _ => ?_))
          refine x_cond rfl (fun h => ?_) (fun h => ?_)
          · repeat (first | refine gG ?_ | refine zN1 (fun hlen => ?_) | refine zN2 (fun hlen => ?_) | refine zAl (fun _ => ?_) | refine zBx (fun _ => ?_) | refine zAp (fun _ => ?_))
            refine lo_add rfl rfl (r := ((m + ps.length : Nat) : Int)) (by rw [IntWalk.i64_in _ (by omega)]; omega) ?_
            cases d3 : decide ((100 : Int) < (dq : Int))
            · cases d4 : decide ((3000 : Int) < ((m + ps.length : Nat) : Int))
              · have hd3 : ¬ (100 : Int) < (dq : Int) := of_decide_eq_false d3
                have hd4 : ¬ (3000 : Int) < ((m + ps.length : Nat) : Int) := of_decide_eq_false d4
                repeat (first | refine gG ?_ | refine zN1 (fun hlen => ?_) | refine zN2 (fun hlen => ?_) | refine zAl (fun _ => ?_) | refine zBx (fun _ => ?_) | refine zAp (fun _ => ?_))
                refine x_own 13 186 4 rfl rfl rfl rfl rfl ?_
                refine x_loop [13, 15, 83, 84, 85, 86, 87, 88, 89, 90, 91] (fun y : Nat × Value => [(83, .c (.lit (.int .i64 (y.1 : Nat)))), (13, .own 1 y.2)]) (fun y => [.row v 73 8 (l.flatMap Ex.nexts).length (Ex.all (l.flatMap Ex.nexts)), .row y.2 186 4 ((ps.take y.1).flatMap V.args).length (V.all ((ps.take y.1).flatMap V.args))])
                  (fun y => y.1 ≤ ps.length) (fun y => ps.length - y.1) (0, .slice none 0 0) (Nat.zero_le _) ⟨rfl, rfl, trivial⟩ rfl ?_
                rintro ⟨i, v'⟩ hi
                dsimp only at hi ⊢
                repeat (first | refine gG ?_ | refine zN1 (fun hlen => ?_) | refine zN2 (fun hlen => ?_) | refine zAl (fun _ => ?_) | refine zBx (fun _ => ?_) | refine zAp (fun _ => ?_))
                refine x_cond rfl (fun h => ?_) (fun h => ?_)
                · have hi' : i < ps.length := by simpa using h
                  obtain ⟨a, ha⟩ := nth hi'
                  have hsn := flat_snoc' V.args ha
                  have hsz : ((ps.take i).flatMap V.args).length + a.args.length ≤ 1048576 := by
                    have h1 := V.len_sizes ((ps.take (i + 1)).flatMap V.args)
                    have h2 := V.sizes_flat (ps.take (i + 1))
                    have h3 := V.take_sizes ps (i + 1)
                    rw [hsn] at h1 h2
                    rw [List.length_append] at h1
                    omega
                  repeat (first | refine gG ?_ | refine zN1 (fun hlen => ?_) | refine zN2 (fun hlen => ?_) | refine zAl (fun _ => ?_) | refine zBx (fun _ => ?_) | refine zAp (fun _ => ?_))
                  refine zIx (i) (hi') ?_
                  repeat (first | refine gG ?_ | refine zN1 (fun hlen => ?_) | refine zN2 (fun hlen => ?_) | refine zAl (fun _ => ?_) | refine zBx (fun _ => ?_) | refine zAp (fun _ => ?_))
                  refine zEl (V.at ha) (V.ts_len a) ?_
                  obtain ⟨ka, na, ta, la⟩ := a
                  simp only [V.args] at hsz hsn
                  repeat (first | refine gG ?_ | refine zN1 (fun hlen => ?_) | refine zN2 (fun hlen => ?_) | refine zAl (fun _ => ?_) | refine zBx (fun _ => ?_) | refine zAp (fun _ => ?_))
                  exact ⟨(i + 1, _), hi', by simp only; omega, x_wkd 2 ⟨rfl, rfl, trivial⟩ (by simp only [hsn, V.all_app', List.length_append]; rfl) (by repeat (first | exact ag_refl | refine ag_upd rfl ?_ | refine ag_at rfl rfl ?_))⟩
                · have hi' : i = ps.length := by have : ¬ i < ps.length := by simpa using h
                                                 omega
                  subst hi'
                  repeat (first | refine gG ?_ | refine zN1 (fun hlen => ?_) | refine zN2 (fun hlen => ?_) | refine zAl (fun _ => ?_) | refine zBx (fun _ => ?_) | refine zAp (fun _ => ?_))
                  refine ⟨(ps.flatMap V.args, m + ps.length, dq + 1), ⟨?_, by simp only; omega, by simp only; omega⟩, by simp only; omega, (wk_frz hX 7 rfl rfl rfl rfl).trans (x_wkd 1 ⟨?_, rfl, rfl, trivial⟩ rfl (by repeat (first | exact ag_refl | refine ag_upd rfl ?_ | refine ag_at rfl rfl ?_)))⟩
                  · have := V.sizes_flat ps; simp only; omega
                  · simp only [List.take_length]; rfl
              · repeat (first | refine gG ?_ | refine zN1 (fun hlen => ?_) | refine zN2 (fun hlen => ?_) | refine zAl (fun _ => ?_) | refine zBx (fun _ => ?_) | refine zAp (fun _ => ?_))
                first | refine zR ?_ | refine zQ ?_
                exact ⟨_, rfl⟩
            · repeat (first | refine gG ?_ | refine zN1 (fun hlen => ?_) | refine zN2 (fun hlen => ?_) | refine zAl (fun _ => ?_) | refine zBx (fun _ => ?_) | refine zAp (fun _ => ?_))
              first | refine zR ?_ | refine zQ ?_
              exact ⟨_, rfl⟩
          · repeat (first | refine gG ?_ | refine zN1 (fun hlen => ?_) | refine zN2 (fun hlen => ?_) | refine zAl (fun _ => ?_) | refine zBx (fun _ => ?_) | refine zAp (fun _ => ?_))
            refine ⟨(l.flatMap Ex.nexts, m, dp + 1), ⟨by simp only; omega, hm, by simp only; omega⟩, by simp only; omega, (wk_frz hX 3 rfl rfl rfl rfl).trans (x_wkd 0 ⟨rfl, rfl, rfl, trivial⟩ rfl (by repeat (first | exact ag_refl | refine ag_upd rfl ?_ | refine ag_at rfl rfl ?_)))⟩
      · repeat (first | refine gG ?_ | refine zN1 (fun hlen => ?_) | refine zN2 (fun hlen => ?_) | refine zAl (fun _ => ?_) | refine zBx (fun _ => ?_) | refine zAp (fun _ => ?_))
        first | refine zR ?_ | refine zQ ?_
        exact ⟨_, rfl⟩
    · repeat (first | refine gG ?_ | refine zN1 (fun hlen => ?_) | refine zN2 (fun hlen => ?_) | refine zAl (fun _ => ?_) | refine zBx (fun _ => ?_) | refine zAp (fun _ => ?_))
      first | refine zR ?_ | refine zQ ?_
      exact ⟨_, rfl⟩
  · repeat (first | refine gG ?_ | refine zN1 (fun hlen => ?_) | refine zN2 (fun hlen => ?_) | refine zAl (fun _ => ?_) | refine zBx (fun _ => ?_) | refine zAp (fun _ => ?_))
    first | refine zR ?_ | refine zQ ?_
    exact ⟨_, rfl⟩
end Go.Proofs.Ytnkafjkcjpajgaa
namespace Go.Proofs.Ytnkafjkcjpajgaa
open Go.RowKit
set_option maxRecDepth 100000 in
set_option maxHeartbeats 4000000 in
theorem funcsSmall_af (l : List Fu) (hv : Fu.sizes l ≤ 1048576) : AF Try.prog 71 [Fu.row l] Tell := by
  refine af_enter tok Try.func71 Try.ntmps71 Try.results71 rfl (by kernel_rfl) rfl rfl fun F hX => ?_
  repeat (first | refine gG ?_ | refine zN1 (fun hlen => ?_) | refine zN2 (fun hlen => ?_) | refine zAl (fun _ => ?_))
  refine x_loop [2, 4, 7, 8, 9, 10, 11, 12, 13, 14, 15, 16, 17, 18, 19, 20, 21, 22, 23, 24, 25, 26, 27, 28] (fun k : Nat => [(7, .c (.lit (.int .i64 k)))]) (fun _ => []) (fun k => k ≤ l.length) (fun k => l.length - k) 0 (Nat.zero_le _) ⟨rfl, trivial⟩ rfl fun k hk => ?_
  repeat (first | refine gG ?_ | refine zN1 (fun hlen => ?_) | refine zN2 (fun hlen => ?_) | refine zAl (fun _ => ?_))
  refine x_cond rfl (fun h => ?_) (fun h => ?_)
  · have hk' : k < l.length := by simpa using h
    obtain ⟨a, ha⟩ := nth hk'
    have hs := Fu.size_mem (List.mem_of_getElem? ha)
    simp only [Fu.size] at hs
    have h1 := typesSmall_af a.types (by omega)
    have h2 := typesSmall_af [a.out] (by simp only [Y.sizes]; omega)
    have h3 := exprSmall_af a.body (by omega)
    repeat (first | refine gG ?_ | refine zN1 (fun hlen => ?_) | refine zN2 (fun hlen => ?_) | refine zAl (fun _ => ?_))
    refine zIx (k) (hk') ?_
    repeat (first | refine gG ?_ | refine zN1 (fun hlen => ?_) | refine zN2 (fun hlen => ?_) | refine zAl (fun _ => ?_))
    refine zEl (Fu.at ha) (Fu.ts_len a) ?_
    obtain ⟨nm, ps, ns, ys, ⟨ka, ta, la⟩, ⟨kb, nb, tb, nsb, ysb, lb, rsb, pb⟩⟩ := a
    dsimp only at h1 h2 h3
    repeat (first | refine gG ?_ | refine zN1 (fun hlen => ?_) | refine zN2 (fun hlen => ?_) | refine zAl (fun _ => ?_))
    refine zCall (h1) ?_
    rintro _ ⟨b1, rfl⟩
    cases b1
    · repeat (first | refine gG ?_ | refine zN1 (fun hlen => ?_) | refine zN2 (fun hlen => ?_) | refine zAl (fun _ => ?_))
      first | refine zR ?_ | refine zQ ?_
      exact ⟨_, rfl⟩
    · repeat (first | refine gG ?_ | refine zN1 (fun hlen => ?_) | refine zN2 (fun hlen => ?_) | refine zAl (fun _ => ?_))
      refine zCall (h2) ?_
      rintro _ ⟨b2, rfl⟩
      cases b2
      · repeat (first | refine gG ?_ | refine zN1 (fun hlen => ?_) | refine zN2 (fun hlen => ?_) | refine zAl (fun _ => ?_))
        first | refine zR ?_ | refine zQ ?_
        exact ⟨_, rfl⟩
      · repeat (first | refine gG ?_ | refine zN1 (fun hlen => ?_) | refine zN2 (fun hlen => ?_) | refine zAl (fun _ => ?_))
        refine zCall (h3) ?_
        rintro _ ⟨b3, rfl⟩
        cases b3
        · repeat (first | refine gG ?_ | refine zN1 (fun hlen => ?_) | refine zN2 (fun hlen => ?_) | refine zAl (fun _ => ?_))
          first | refine zR ?_ | refine zQ ?_
          exact ⟨_, rfl⟩
        · repeat (first | refine gG ?_ | refine zN1 (fun hlen => ?_) | refine zN2 (fun hlen => ?_) | refine zAl (fun _ => ?_))
          exact ⟨k + 1, hk', by omega, x_wkd 0 ⟨rfl, trivial⟩ rfl (by repeat (first | exact ag_refl | refine ag_upd rfl ?_ | refine ag_at rfl rfl ?_))⟩
  · repeat (first | refine gG ?_ | refine zN1 (fun hlen => ?_) | refine zN2 (fun hlen => ?_) | refine zAl (fun _ => ?_))
    first | refine zR ?_ | refine zQ ?_
    exact ⟨_, rfl⟩
set_option maxRecDepth 100000 in
set_option maxHeartbeats 4000000 in
theorem programSmall_af (p : Pr) (hv : p.size ≤ 1048576) : AF Try.prog 32 [p.t] Tell := by
  obtain ⟨pn, pv, us, das, trs, ims, fus, acs⟩ := p
  simp only [Pr.size] at hv
  have hl1 := Da.len_sizes das
  have hl2 := Tr.len_sizes trs
  have hl3 := Im.len_sizes ims
  have hl4 := Fu.len_sizes fus
  have hl5 := Ac.len_sizes acs
  have hfs := funcsSmall_af fus (by omega)
  refine af_enter tok Try.func32 Try.ntmps32 Try.results32 rfl (by kernel_rfl) rfl rfl fun F hX => ?_
  repeat (first | refine gG ?_ | refine zN1 (fun hlen => ?_) | refine zN2 (fun hlen => ?_) | refine zAl (fun _ => ?_) | refine zBx (fun _ => ?_))
  rename_i b0 _
  refine lo_add rfl rfl (r := ((das.length + trs.length : Nat) : Int)) (by rw [IntWalk.i64_in _ (by omega)]; omega) ?_
  repeat (first | refine gG ?_ | refine zN1 (fun hlen => ?_) | refine zN2 (fun hlen => ?_) | refine zAl (fun _ => ?_) | refine zBx (fun _ => ?_))
  refine lo_add rfl rfl (r := ((das.length + trs.length + ims.length : Nat) : Int)) (by rw [IntWalk.i64_in _ (by omega)]; omega) ?_
  repeat (first | refine gG ?_ | refine zN1 (fun hlen => ?_) | refine zN2 (fun hlen => ?_) | refine zAl (fun _ => ?_) | refine zBx (fun _ => ?_))
  refine lo_add rfl rfl (r := ((das.length + trs.length + ims.length + fus.length : Nat) : Int)) (by rw [IntWalk.i64_in _ (by omega)]; omega) ?_
  repeat (first | refine gG ?_ | refine zN1 (fun hlen => ?_) | refine zN2 (fun hlen => ?_) | refine zAl (fun _ => ?_) | refine zBx (fun _ => ?_))
  refine lo_add rfl rfl (r := ((das.length + trs.length + ims.length + fus.length + acs.length : Nat) : Int)) (by rw [IntWalk.i64_in _ (by omega)]; omega) ?_
  cases d1 : decide ((200 : Int) < ((das.length + trs.length + ims.length + fus.length + acs.length : Nat) : Int))
  · repeat (first | refine gG ?_ | refine zN1 (fun hlen => ?_) | refine zN2 (fun hlen => ?_) | refine zAl (fun _ => ?_) | refine zBx (fun _ => ?_))
    refine zCall (hfs) ?_
    rintro _ ⟨b1, rfl⟩
    cases b1
    · repeat (first | refine gG ?_ | refine zN1 (fun hlen => ?_) | refine zN2 (fun hlen => ?_) | refine zAl (fun _ => ?_) | refine zBx (fun _ => ?_))
      first | refine zR ?_ | refine zQ ?_
      exact ⟨_, rfl⟩
    repeat (first | refine gG ?_ | refine zN1 (fun hlen => ?_) | refine zN2 (fun hlen => ?_) | refine zAl (fun _ => ?_) | refine zBx (fun _ => ?_))
    refine x_loop [2, 4, 6, 42, 43, 44, 45, 46, 47, 48, 49, 50, 51, 52, 53, 54, 55, 56, 57, 58] (fun k : Nat => [(42, .c (.lit (.int .i64 k)))]) (fun _ => [.box b0 66 [.c (.lit (.string pn)), .c (.lit (.int .i64 pv)), .c (Us.row us), .c (Da.row das), .c (Tr.row trs), .c (Im.row ims), .c (Fu.row fus), .c (Ac.row acs)]]) (fun k => k ≤ das.length) (fun k => das.length - k) 0 (Nat.zero_le _) ⟨rfl, trivial⟩ rfl fun k hk => ?_
    repeat (first | refine gG ?_ | refine zN1 (fun hlen => ?_) | refine zN2 (fun hlen => ?_) | refine zAl (fun _ => ?_) | refine zBx (fun _ => ?_))
    refine x_cond rfl (fun h => ?_) (fun h => ?_)
    · have hk' : k < das.length := by simpa using h
      obtain ⟨a, ha⟩ := nth hk'
      have hs := Da.size_mem (List.mem_of_getElem? ha)
      simp only [Da.size] at hs
      repeat (first | refine gG ?_ | refine zN1 (fun hlen => ?_) | refine zN2 (fun hlen => ?_) | refine zAl (fun _ => ?_) | refine zBx (fun _ => ?_))
      refine zIx (k) (hk') ?_
      repeat (first | refine gG ?_ | refine zN1 (fun hlen => ?_) | refine zN2 (fun hlen => ?_) | refine zAl (fun _ => ?_) | refine zBx (fun _ => ?_))
      refine zEl (Da.at ha) (Da.ts_len a) ?_
      obtain ⟨dn, dps, mks⟩ := a
      dsimp only at hs
      repeat (first | refine gG ?_ | refine zN1 (fun hlen => ?_) | refine zN2 (fun hlen => ?_) | refine zAl (fun _ => ?_) | refine zBx (fun _ => ?_))
      rename_i b1
      refine x_loop [2, 6, 49, 50, 51, 52, 53, 54, 55, 56, 57] (fun k : Nat => [(49, .c (.lit (.int .i64 k)))]) (fun _ => [.box b0 66 [.c (.lit (.string pn)), .c (.lit (.int .i64 pv)), .c (Us.row us), .c (Da.row das), .c (Tr.row trs), .c (Im.row ims), .c (Fu.row fus), .c (Ac.row acs)], .box b1 135 [.c (.lit (.string dn)), .c (strRow dps), .c (Mk.row mks)]]) (fun k => k ≤ mks.length) (fun k => mks.length - k) 0 (Nat.zero_le _) ⟨rfl, trivial⟩ rfl fun j hj => ?_
      repeat (first | refine gG ?_ | refine zN1 (fun hlen => ?_) | refine zN2 (fun hlen => ?_) | refine zAl (fun _ => ?_) | refine zBx (fun _ => ?_))
      refine x_cond rfl (fun h => ?_) (fun h => ?_)
      · have hj' : j < mks.length := by simpa using h
        obtain ⟨m, hm⟩ := nth hj'
        have hms := Mk.size_mem (List.mem_of_getElem? hm)
        simp only [Mk.size] at hms
        have h1 := typesSmall_af m.args (by omega)
        repeat (first | refine gG ?_ | refine zN1 (fun hlen => ?_) | refine zN2 (fun hlen => ?_) | refine zAl (fun _ => ?_) | refine zBx (fun _ => ?_))
        refine zIx (j) (hj') ?_
        repeat (first | refine gG ?_ | refine zN1 (fun hlen => ?_) | refine zN2 (fun hlen => ?_) | refine zAl (fun _ => ?_) | refine zBx (fun _ => ?_))
        refine zEl (Mk.at hm) (Mk.ts_len m) ?_
        repeat (first | refine gG ?_ | refine zN1 (fun hlen => ?_) | refine zN2 (fun hlen => ?_) | refine zAl (fun _ => ?_) | refine zBx (fun _ => ?_))
        refine zCall (h1) ?_
        rintro _ ⟨b2, rfl⟩
        cases b2
        · repeat (first | refine gG ?_ | refine zN1 (fun hlen => ?_) | refine zN2 (fun hlen => ?_) | refine zAl (fun _ => ?_) | refine zBx (fun _ => ?_))
          first | refine zR ?_ | refine zQ ?_
          exact ⟨_, rfl⟩
        · repeat (first | refine gG ?_ | refine zN1 (fun hlen => ?_) | refine zN2 (fun hlen => ?_) | refine zAl (fun _ => ?_) | refine zBx (fun _ => ?_))
          exact ⟨j + 1, hj', by omega, x_wkd 2 ⟨rfl, trivial⟩ rfl (by repeat (first | exact ag_refl | refine ag_upd rfl ?_ | refine ag_at rfl rfl ?_))⟩
      · repeat (first | refine gG ?_ | refine zN1 (fun hlen => ?_) | refine zN2 (fun hlen => ?_) | refine zAl (fun _ => ?_) | refine zBx (fun _ => ?_))
        exact ⟨k + 1, hk', by omega, x_wkd 1 ⟨rfl, trivial⟩ rfl (by repeat (first | exact ag_refl | refine ag_upd rfl ?_ | refine ag_at rfl rfl ?_))⟩
    · repeat (first | refine gG ?_ | refine zN1 (fun hlen => ?_) | refine zN2 (fun hlen => ?_) | refine zAl (fun _ => ?_) | refine zBx (fun _ => ?_))
      refine x_loop [2, 8, 62, 63, 64, 65, 66, 67, 68, 69, 70] (fun k : Nat => [(62, .c (.lit (.int .i64 k)))]) (fun _ => [.box b0 66 [.c (.lit (.string pn)), .c (.lit (.int .i64 pv)), .c (Us.row us), .c (Da.row das), .c (Tr.row trs), .c (Im.row ims), .c (Fu.row fus), .c (Ac.row acs)]]) (fun k => k ≤ trs.length) (fun k => trs.length - k) 0 (Nat.zero_le _) ⟨rfl, trivial⟩ rfl fun k hk => ?_
      repeat (first | refine gG ?_ | refine zN1 (fun hlen => ?_) | refine zN2 (fun hlen => ?_) | refine zAl (fun _ => ?_) | refine zBx (fun _ => ?_))
      refine x_cond rfl (fun h => ?_) (fun h => ?_)
      · have hk' : k < trs.length := by simpa using h
        obtain ⟨a, ha⟩ := nth hk'
        have hs := Tr.size_mem (List.mem_of_getElem? ha)
        simp only [Tr.size] at hs
        have h1 := funcsSmall_af a.funcs (by omega)
        repeat (first | refine gG ?_ | refine zN1 (fun hlen => ?_) | refine zN2 (fun hlen => ?_) | refine zAl (fun _ => ?_) | refine zBx (fun _ => ?_))
        refine zIx (k) (hk') ?_
        repeat (first | refine gG ?_ | refine zN1 (fun hlen => ?_) | refine zN2 (fun hlen => ?_) | refine zAl (fun _ => ?_) | refine zBx (fun _ => ?_))
        refine zEl (Tr.at ha) (Tr.ts_len a) ?_
        repeat (first | refine gG ?_ | refine zN1 (fun hlen => ?_) | refine zN2 (fun hlen => ?_) | refine zAl (fun _ => ?_) | refine zBx (fun _ => ?_))
        refine zCall (h1) ?_
        rintro _ ⟨b1, rfl⟩
        cases b1
        · repeat (first | refine gG ?_ | refine zN1 (fun hlen => ?_) | refine zN2 (fun hlen => ?_) | refine zAl (fun _ => ?_) | refine zBx (fun _ => ?_))
          first | refine zR ?_ | refine zQ ?_
          exact ⟨_, rfl⟩
        · repeat (first | refine gG ?_ | refine zN1 (fun hlen => ?_) | refine zN2 (fun hlen => ?_) | refine zAl (fun _ => ?_) | refine zBx (fun _ => ?_))
          exact ⟨k + 1, hk', by omega, x_wkd 1 ⟨rfl, trivial⟩ rfl (by repeat (first | exact ag_refl | refine ag_upd rfl ?_ | refine ag_at rfl rfl ?_))⟩
      · repeat (first | refine gG ?_ | refine zN1 (fun hlen => ?_) | refine zN2 (fun hlen => ?_) | refine zAl (fun _ => ?_) | refine zBx (fun _ => ?_))
        refine x_loop [2, 10, 74, 75, 76, 77, 78, 79, 80, 81, 82] (fun k : Nat => [(74, .c (.lit (.int .i64 k)))]) (fun _ => [.box b0 66 [.c (.lit (.string pn)), .c (.lit (.int .i64 pv)), .c (Us.row us), .c (Da.row das), .c (Tr.row trs), .c (Im.row ims), .c (Fu.row fus), .c (Ac.row acs)]]) (fun k => k ≤ ims.length) (fun k => ims.length - k) 0 (Nat.zero_le _) ⟨rfl, trivial⟩ rfl fun k hk => ?_
        repeat (first | refine gG ?_ | refine zN1 (fun hlen => ?_) | refine zN2 (fun hlen => ?_) | refine zAl (fun _ => ?_) | refine zBx (fun _ => ?_))
        refine x_cond rfl (fun h => ?_) (fun h => ?_)
        · have hk' : k < ims.length := by simpa using h
          obtain ⟨a, ha⟩ := nth hk'
          have hs := Im.size_mem (List.mem_of_getElem? ha)
          simp only [Im.size] at hs
          have h1 := funcsSmall_af a.funcs (by omega)
          repeat (first | refine gG ?_ | refine zN1 (fun hlen => ?_) | refine zN2 (fun hlen => ?_) | refine zAl (fun _ => ?_) | refine zBx (fun _ => ?_))
          refine zIx (k) (hk') ?_
          repeat (first | refine gG ?_ | refine zN1 (fun hlen => ?_) | refine zN2 (fun hlen => ?_) | refine zAl (fun _ => ?_) | refine zBx (fun _ => ?_))
          refine zEl (Im.at ha) (Im.ts_len a) ?_
          repeat (first | refine gG ?_ | refine zN1 (fun hlen => ?_) | refine zN2 (fun hlen => ?_) | refine zAl (fun _ => ?_) | refine zBx (fun _ => ?_))
          refine zCall (h1) ?_
          rintro _ ⟨b1, rfl⟩
          cases b1
          · repeat (first | refine gG ?_ | refine zN1 (fun hlen => ?_) | refine zN2 (fun hlen => ?_) | refine zAl (fun _ => ?_) | refine zBx (fun _ => ?_))
            first | refine zR ?_ | refine zQ ?_
            exact ⟨_, rfl⟩
          · repeat (first | refine gG ?_ | refine zN1 (fun hlen => ?_) | refine zN2 (fun hlen => ?_) | refine zAl (fun _ => ?_) | refine zBx (fun _ => ?_))
            exact ⟨k + 1, hk', by omega, x_wkd 1 ⟨rfl, trivial⟩ rfl (by repeat (first | exact ag_refl | refine ag_upd rfl ?_ | refine ag_at rfl rfl ?_))⟩
        · repeat (first | refine gG ?_ | refine zN1 (fun hlen => ?_) | refine zN2 (fun hlen => ?_) | refine zAl (fun _ => ?_) | refine zBx (fun _ => ?_))
          refine x_drop 0 rfl ?_
          refine x_loop [2, 12, 86, 87, 88, 89, 90, 91, 92, 93, 94, 95, 96, 97, 98, 99, 100, 101, 102, 103, 104, 105, 106, 107] (fun k : Nat => [(86, .c (.lit (.int .i64 k)))]) (fun _ => []) (fun k => k ≤ acs.length) (fun k => acs.length - k) 0 (Nat.zero_le _) ⟨rfl, trivial⟩ rfl fun k hk => ?_
          repeat (first | refine gG ?_ | refine zN1 (fun hlen => ?_) | refine zN2 (fun hlen => ?_) | refine zAl (fun _ => ?_) | refine zBx (fun _ => ?_))
          refine x_cond rfl (fun h => ?_) (fun h => ?_)
          · have hk' : k < acs.length := by simpa using h
            obtain ⟨a, ha⟩ := nth hk'
            have hs := Ac.size_mem (List.mem_of_getElem? ha)
            simp only [Ac.size] at hs
            have h1 := typesSmall_af a.types (by omega)
            have h2 := typesSmall_af [a.msg] (by simp only [Y.sizes]; omega)
            have h3 := exprSmall_af a.body (by omega)
            repeat (first | refine gG ?_ | refine zN1 (fun hlen => ?_) | refine zN2 (fun hlen => ?_) | refine zAl (fun _ => ?_) | refine zBx (fun _ => ?_))
            refine zIx (k) (hk') ?_
            repeat (first | refine gG ?_ | refine zN1 (fun hlen => ?_) | refine zN2 (fun hlen => ?_) | refine zAl (fun _ => ?_) | refine zBx (fun _ => ?_))
            refine zEl (Ac.at ha) (Ac.ts_len a) ?_
            obtain ⟨nm, ns, ys, ⟨ka, ta, la⟩, ⟨kb, nb, tb, nsb, ysb, lb, rsb, pb⟩⟩ := a
            dsimp only at h1 h2 h3
            repeat (first | refine gG ?_ | refine zN1 (fun hlen => ?_) | refine zN2 (fun hlen => ?_) | refine zAl (fun _ => ?_) | refine zBx (fun _ => ?_))
            refine zCall (h1) ?_
            rintro _ ⟨b1, rfl⟩
            cases b1
            · repeat (first | refine gG ?_ | refine zN1 (fun hlen => ?_) | refine zN2 (fun hlen => ?_) | refine zAl (fun _ => ?_) | refine zBx (fun _ => ?_))
              first | refine zR ?_ | refine zQ ?_
              exact ⟨_, rfl⟩
            · repeat (first | refine gG ?_ | refine zN1 (fun hlen => ?_) | refine zN2 (fun hlen => ?_) | refine zAl (fun _ => ?_) | refine zBx (fun _ => ?_))
              refine zCall (h2) ?_
              rintro _ ⟨b2, rfl⟩
              cases b2
              · repeat (first | refine gG ?_ | refine zN1 (fun hlen => ?_) | refine zN2 (fun hlen => ?_) | refine zAl (fun _ => ?_) | refine zBx (fun _ => ?_))
                first | refine zR ?_ | refine zQ ?_
                exact ⟨_, rfl⟩
              · repeat (first | refine gG ?_ | refine zN1 (fun hlen => ?_) | refine zN2 (fun hlen => ?_) | refine zAl (fun _ => ?_) | refine zBx (fun _ => ?_))
                refine zCall (h3) ?_
                rintro _ ⟨b3, rfl⟩
                cases b3
                · repeat (first | refine gG ?_ | refine zN1 (fun hlen => ?_) | refine zN2 (fun hlen => ?_) | refine zAl (fun _ => ?_) | refine zBx (fun _ => ?_))
                  first | refine zR ?_ | refine zQ ?_
                  exact ⟨_, rfl⟩
                · repeat (first | refine gG ?_ | refine zN1 (fun hlen => ?_) | refine zN2 (fun hlen => ?_) | refine zAl (fun _ => ?_) | refine zBx (fun _ => ?_))
                  exact ⟨k + 1, hk', by omega, x_wkd 0 ⟨rfl, trivial⟩ rfl (by repeat (first | exact ag_refl | refine ag_upd rfl ?_ | refine ag_at rfl rfl ?_))⟩
          · repeat (first | refine gG ?_ | refine zN1 (fun hlen => ?_) | refine zN2 (fun hlen => ?_) | refine zAl (fun _ => ?_) | refine zBx (fun _ => ?_))
            first | refine zR ?_ | refine zQ ?_
            exact ⟨_, rfl⟩
  · repeat (first | refine gG ?_ | refine zN1 (fun hlen => ?_) | refine zN2 (fun hlen => ?_) | refine zAl (fun _ => ?_) | refine zBx (fun _ => ?_))
    first | refine zR ?_ | refine zQ ?_
    exact ⟨_, rfl⟩
end Go.Proofs.Ytnkafjkcjpajgaa
