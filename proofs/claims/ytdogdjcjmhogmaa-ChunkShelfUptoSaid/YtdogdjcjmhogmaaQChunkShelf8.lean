/-
  Texts of this proof, part 8: Kcd Kce Kcf Kcg.
-/
import Derived.Test.YtdogdjcjmhogmaaQChunkShelf7
import Derived.Lib.MinMax
namespace Go.Proofs.Ytdogdjcjmhogmaa
open Go.RowKit
def szAt (D : List Pc) (k : Nat) : Nat := match D[k]? with | some p => p.t.size | none => 0
def sumAt (D : List Pc) (P : List Nat) : Nat := (P.map (szAt D)).sum
theorem sumAt_snoc (D : List Pc) (P : List Nat) {k : Nat} {p : Pc} (h : D[k]? = some p) : sumAt D (P ++ [k]) = sumAt D P + p.t.size := by
  unfold sumAt
  rw [List.map_append, List.sum_append]
  simp [szAt, h]
theorem sumAt_le {D : List Pc} (hD : POk D) : ∀ P : List Nat, sumAt D P ≤ 32 * P.length
  | [] => by simp [sumAt]
  | k :: P => by
    have := sumAt_le hD P
    have h1 : szAt D k ≤ 32 := by
      unfold szAt
      cases h : D[k]? with
      | none => simp
      | some p => exact hD.ts p (List.mem_of_getElem? h)
    unfold sumAt at *
    simp only [List.map_cons, List.sum_cons, List.length_cons]
    omega
theorem sumAt_all {D : List Pc} {P : List Nat} (hn : P.Nodup) (hl : ∀ p ∈ P, p < D.length) (ha : ∀ k, k < D.length → k ∈ P) : sumAt D P = bytesS D := by
  have hp : P.Perm (List.range D.length) := (List.perm_ext_iff_of_nodup hn List.nodup_range).2 fun a => ⟨fun h => List.mem_range.2 (hl a h), fun h => ha a (List.mem_range.1 h)⟩
  unfold sumAt bytesS
  rw [(hp.map (szAt D)).sum_nat]
  congr 1
  apply List.ext_getElem?
  intro i
  rw [List.getElem?_map, List.getElem?_map]
  by_cases h : i < D.length
  · simp [h, szAt]
  · simp [List.getElem?_eq_none (show D.length ≤ i by omega), h]
structure WalkP (n : Nat) (P : List Nat) : Prop where
  nd : P.Nodup
  lt : ∀ p ∈ P, p < n
theorem nil_row {sz : Nat} (h0 : 0 < sz) : Re (.c (.lit (.slice none 0 0))) (.c (.row 0 sz [])) := fun M u h => by simp only [RA] at h ⊢; exact rt_nil h0 h
theorem nthC {α : Type} {l : List α} {k : Nat} (h : k < l.length) : ∃ a, l[k]? = some a := ⟨_, List.getElem?_eq_getElem h⟩
theorem assoc_at {α : Type} {κ : Pc → α} {v : Pc → T} {c : α → Value} {D : List Pc} {k : Nat} {u : Value} {t : T} (h : (mkeys c (assoc κ v D))[k]? = some (u, t)) : ∃ p, D[k]? = some p ∧ u = c (κ p) ∧ t = v p := by
  simp only [mkeys, assoc, List.map_map, List.getElem?_map] at h
  cases hD : D[k]? with
  | none => rw [hD] at h; cases h
  | some p =>
    rw [hD] at h
    simp only [Option.map_some, Option.some.injEq, Function.comp, Prod.mk.injEq] at h
    exact ⟨p, rfl, h.1.symm, h.2.symm⟩
theorem assoc_mlen {α : Type} {κ : Pc → α} {v : Pc → T} {c : α → Value} {D : List Pc} : (mkeys c (assoc κ v D)).length = D.length := by simp [mkeys, assoc]
set_option maxRecDepth 100000 in
set_option maxHeartbeats 4000000 in
theorem size_ag (b bp bn : Nat) (D : List Pc) (hD : POk D) : AG Try.prog 28 [.ptr 0 b 0] (shP b bp bn D) (fun r hs => r = .tup [.c (.lit (.int .i64 D.length)), .c (.lit (.int .i64 (bytesS D)))] ∧ hs = shP b bp bn D) := by
  have hal : (assoc Pc.n pieT D).length = D.length := assoc_len _ _ _
  have hln := hD.ln
  refine ag_enter (3) tok Try.func28 Try.ntmps28 Try.results28 rfl (by kernel_rfl) rfl fun F => ?_
  repeat (first | refine gG ?_ | refine zN1 (fun hlen => ?_) | refine zN2 (fun hlen => ?_) | refine zAl (fun _ => ?_))
  refine zRg 3 108 (fun b' st c hsl => ?_)
  repeat (first | refine gG ?_ | refine zN1 (fun hlen => ?_) | refine zN2 (fun hlen => ?_) | refine zAl (fun _ => ?_))
  refine x_loop [4, 6, 12, 13, 14, 15, 16, 17, 18, 19, 20] (fun P : List Nat => [(4, .c (.lit (.int .i64 (sumAt D P))))]) (fun P => [.box b 105 [.own 1 (.map (some bp)), .own 2 (.map (some bn))], .mpx bp (mkeys (Value.int .i64) (assoc Pc.n pieT D)) (some (st, c)), .mp bn (mkeys Value.string (assoc Pc.t numT D)), .it b' bp st c P]) (WalkP D.length) (fun P => D.length - P.length) [] ⟨List.nodup_nil, fun _ h => by simp at h⟩ ⟨rfl, trivial⟩ rfl ?_
  intro P hP
  have hle := sumAt_le hD P
  have hpl := walk_len hP.nd hP.lt
  repeat (first | refine gG ?_ | refine zN1 (fun hlen => ?_) | refine zN2 (fun hlen => ?_) | refine zAl (fun _ => ?_))
  refine zNx 1 (fun hd => ?_) (fun kk u t he hn => ?_)
  · have hall := sumAt_all hP.nd hP.lt fun k hk => hd k (by rw [assoc_mlen]; exact hk)
    clear hd hP
    repeat (first | refine gO ?_ | refine zN1 (fun hlen => ?_) | refine zN2 (fun hlen => ?_) | refine zAl (fun _ => ?_))
    refine x_unit 1 ?_
    repeat (first | refine gG ?_ | refine zN1 (fun hlen => ?_) | refine zN2 (fun hlen => ?_) | refine zAl (fun _ => ?_))
    refine zMl (kT := 3) (eT := 108) ?_
    repeat (first | refine gG ?_ | refine zN1 (fun hlen => ?_) | refine zN2 (fun hlen => ?_) | refine zAl (fun _ => ?_))
    refine zG ?_
    exact ⟨by rw [hall, hal]; rfl, rfl⟩
  · obtain ⟨p, hp, rfl, rfl⟩ := assoc_at he
    have hkk : kk < D.length := (List.getElem?_eq_some_iff.1 hp).1
    have hsn := sumAt_snoc D P hp
    have ht := hD.ts p (List.mem_of_getElem? hp)
    have hw := walk_snoc hP.nd hP.lt hkk hn
    have hwl := walk_len hw.1 hw.2
    rw [List.length_append] at hwl
    simp only [List.length_cons, List.length_nil] at hwl
    obtain ⟨pn, pt, ph⟩ := p
    dsimp only at hsn ht
    clear hP hp hn
    repeat (first | refine gG ?_ | refine zN1 (fun hlen => ?_) | refine zN2 (fun hlen => ?_) | refine zAl (fun _ => ?_))
    refine zEn 1 he ?_
    repeat (first | refine gG ?_ | refine zN1 (fun hlen => ?_) | refine zN2 (fun hlen => ?_) | refine zAl (fun _ => ?_))
    refine lo_add rfl rfl (r := ((sumAt D P + pt.size : Nat) : Int)) (by show IntKind.wrap .i64 ((sumAt D P : Int) + (pt.size : Int)) = _; rw [IntWalk.i64_in _ (by omega)]; omega) ?_
    repeat (first | refine gG ?_ | refine zN1 (fun hlen => ?_) | refine zN2 (fun hlen => ?_) | refine zAl (fun _ => ?_))
    exact ⟨P ++ [kk], ⟨hw.1, hw.2⟩, by simp only [List.length_append, List.length_cons, List.length_nil]; omega, x_wkd 4 ⟨by rw [hsn]; rfl, trivial⟩ rfl (by repeat (first | exact ag_refl | refine ag_upd rfl ?_ | refine ag_at rfl rfl ?_))⟩
def LoadR (b bp bn : Nat) (D : List Pc) (q : List UInt8 × Int) (r : AV) (hs : List Blk) : Prop := r = .tup [.c (bytRow q.1), .c (.lit (.int .i64 q.2))] ∧ hs = shP b bp bn D
theorem re_tup2 {a b c : AV} (h : Re a b) : Re (.tup [a, c]) (.tup [b, c]) := re_tup (res_cons h (res_cons re_refl res_nil))
set_option maxRecDepth 100000 in
set_option maxHeartbeats 4000000 in
theorem load_ag (b bp bn : Nat) (D : List Pc) (hD : POk D) (l : List Int) (hl : l.length ≤ 1048576) : AG Try.prog 22 [.ptr 0 b 0, .c (intRow l)] (shP b bp bn D) (LoadR b bp bn D (loadS D l [])) := by
  refine AG.re (R := fun r hs => ((loadS D l []).2 = 0 ∧ r = .tup [.c (bytRow (loadS D l []).1), .c (.lit (.int .i64 0))] ∨ loadS D l [] = ([], 4) ∧ r = .tup [.c (.lit (.slice none 0 0)), .c (.lit (.int .i64 4))]) ∧ hs = shP b bp bn D) ?_ ?_
  rotate_left
  · rintro r hs ⟨⟨h0, rfl⟩ | ⟨h0, rfl⟩, rfl⟩
    · exact ⟨_, re_refl, by rw [← h0], rfl⟩
    · exact ⟨_, re_tup2 (nil_row (sz := 1) (by omega)), by rw [h0]; rfl, rfl⟩
  refine ag_enter (3) tok Try.func22 Try.ntmps22 Try.results22 rfl (by kernel_rfl) rfl fun F => ?_
  repeat (first | refine gG ?_ | refine zN1 (fun hlen => ?_) | refine zN2 (fun hlen => ?_) | refine zAl (fun _ => ?_) | refine zAp (fun _ => ?_))
  refine x_own 6 5 1 rfl rfl rfl rfl rfl ?_
  refine x_loop [4, 5, 6, 8, 9, 10, 13, 14, 15, 16, 17, 18, 19, 20, 21, 22, 23, 24, 25, 26, 27, 28, 29, 30, 31, 32] (fun y : Nat × Value × List UInt8 => [(13, .c (.lit (.int .i64 (y.1 : Nat)))), (6, .own 3 y.2.1)]) (fun y => shP b bp bn D ++ [.row y.2.1 5 1 y.2.2.length (byts y.2.2)]) (fun y => y.1 ≤ l.length ∧ loadS D l [] = loadS D (l.drop y.1) y.2.2 ∧ y.2.2.length ≤ 32 * y.1) (fun y => l.length - y.1) (0, .slice none 0 0, []) ⟨Nat.zero_le _, rfl, by simp⟩ ⟨rfl, rfl, trivial⟩ rfl ?_
  rintro ⟨k, v, out⟩ ⟨hk, hE, hO⟩
  dsimp only at hk hE hO ⊢
  repeat (first | refine gG ?_ | refine zN1 (fun hlen => ?_) | refine zN2 (fun hlen => ?_) | refine zAl (fun _ => ?_) | refine zAp (fun _ => ?_))
  refine x_cond rfl (fun h => ?_) (fun h => ?_)
  · have hk' : k < l.length := by simpa using h
    obtain ⟨a, ha⟩ := nthC hk'
    have hat := int_at ha
    have hdr : l.drop k = a :: l.drop (k + 1) := by
      obtain ⟨h1, rfl⟩ := List.getElem?_eq_some_iff.1 ha
      exact List.drop_eq_getElem_cons h1
    rw [hdr, loadS] at hE
    clear h ha hdr
    rcases look_n (D := D) a with ⟨h0, h1, h2⟩ | ⟨p, h0, h1, h2⟩
    · rw [h0] at hE
      dsimp only at hE
      clear h0 hD
      repeat (first | refine gG ?_ | refine zN1 (fun hlen => ?_) | refine zN2 (fun hlen => ?_) | refine zAl (fun _ => ?_) | refine zAp (fun _ => ?_))
      refine zIx k hk' ?_
      repeat (first | refine gG ?_ | refine zN1 (fun hlen => ?_) | refine zN2 (fun hlen => ?_) | refine zAl (fun _ => ?_) | refine zAp (fun _ => ?_))
      refine zEl1 hat ?_
      repeat (first | refine gG ?_ | refine zN1 (fun hlen => ?_) | refine zN2 (fun hlen => ?_) | refine zAl (fun _ => ?_) | refine zAp (fun _ => ?_))
      refine zLkia 3 108 h1 h2 ?_
      repeat (first | refine gG ?_ | refine zN1 (fun hlen => ?_) | refine zN2 (fun hlen => ?_) | refine zAl (fun _ => ?_) | refine zAp (fun _ => ?_))
      refine zG ?_
      exact ⟨.inr ⟨hE, rfl⟩, rfl⟩
    · rw [h0] at hE
      dsimp only at hE
      obtain ⟨j, _, hj, _⟩ := getS_some h0
      have ht := hD.ts p (List.mem_of_getElem? hj)
      have hsz := sz_len p.t
      clear h0 hD hj
      obtain ⟨pn, pt, ph⟩ := p
      dsimp only at ht hE hsz
      repeat (first | refine gG ?_ | refine zN1 (fun hlen => ?_) | refine zN2 (fun hlen => ?_) | refine zAl (fun _ => ?_) | refine zAp (fun _ => ?_))
      refine zIx k hk' ?_
      repeat (first | refine gG ?_ | refine zN1 (fun hlen => ?_) | refine zN2 (fun hlen => ?_) | refine zAl (fun _ => ?_) | refine zAp (fun _ => ?_))
      refine zEl1 hat ?_
      repeat (first | refine gG ?_ | refine zN1 (fun hlen => ?_) | refine zN2 (fun hlen => ?_) | refine zAl (fun _ => ?_) | refine zAp (fun _ => ?_))
      refine zLkia 3 108 h1 h2 ?_
      repeat (first | refine gG ?_ | refine zN1 (fun hlen => ?_) | refine zN2 (fun hlen => ?_) | refine zAl (fun _ => ?_) | refine zAp (fun _ => ?_))
      refine zAps (show out.length + pt.size ≤ 140737488355328 by omega) (fun v' => ?_)
      repeat (first | refine gG ?_ | refine zN1 (fun hlen => ?_) | refine zN2 (fun hlen => ?_) | refine zAl (fun _ => ?_) | refine zAp (fun _ => ?_))
      refine ⟨(k + 1, v', out ++ pt.data.toList), ⟨hk', hE, by simp only [List.length_append]; omega⟩, by simp only; omega, x_wkd 4 ⟨rfl, rfl, trivial⟩ ?_ (by repeat (first | exact ag_refl | refine ag_upd rfl ?_ | refine ag_at rfl rfl ?_))⟩
      simp only [byts_app, List.length_append, hsz]
      rfl
  · have hk' : k = l.length := by have : ¬ k < l.length := by simpa using h
                                  omega
    subst hk'
    rw [List.drop_length, loadS] at hE
    refine x_fz 6 rfl rfl rfl rfl ?_
    repeat (first | refine gG ?_ | refine zN1 (fun hlen => ?_) | refine zN2 (fun hlen => ?_) | refine zAl (fun _ => ?_) | refine zAp (fun _ => ?_))
    refine zG ?_
    rw [hE]
    exact ⟨.inl ⟨rfl, rfl⟩, rfl⟩
theorem dropAll_snoc : ∀ (l : List Int) (n : Int) (D : List Pc), dropAll (l ++ [n]) D = (dropS n (dropAll l D)).2
  | [], _, _ => rfl
  | m :: l, n, D => by rw [List.cons_append, dropAll, dropAll, dropAll_snoc l n]
set_option maxRecDepth 100000 in
set_option maxHeartbeats 4000000 in
theorem freeL_ag (b bp bn : Nat) (D : List Pc) (hD : POk D) (l : List Int) (hl : l.length ≤ 1048576) : AG Try.prog 25 [.ptr 0 b 0, .c (intRow l)] (shP b bp bn D) (fun r hs => r = .c (.lit (.int .i64 (freeS l D).1)) ∧ hs = shP b bp bn (freeS l D).2) := by
  have hE := freeS.eq_1 l D
  generalize freeS l D = Q at *
  refine ag_enter (3) tok Try.func25 Try.ntmps25 Try.results25 rfl (by kernel_rfl) rfl fun F => ?_
  repeat (first | refine gG ?_ | refine zN1 (fun hlen => ?_) | refine zN2 (fun hlen => ?_))
  refine zMm (fun bm => ?_)
  repeat (first | refine gG ?_ | refine zN1 (fun hlen => ?_) | refine zN2 (fun hlen => ?_))
  refine x_loop [4, 7, 13, 14, 15, 16, 17, 18, 19, 20, 21, 22, 23, 24, 25, 26, 27, 28, 29, 30, 31, 32] (fun y : Nat × List (Int × T) => [(13, .c (.lit (.int .i64 (y.1 : Nat))))]) (fun y => shP b bp bn D ++ [.mp bm (mkeys (Value.int .i64) y.2)]) (fun y => y.1 ≤ l.length ∧ FreeTo l D y.1 ∧ ∀ n, (mget n y.2).getD (.lit (.int .i64 0)) = .lit (.int .i64 (cnt n (l.take y.1)))) (fun y => l.length - y.1) (0, []) ⟨Nat.zero_le _, (fun n hn => by simp at hn), fun n => rfl⟩ ⟨rfl, trivial⟩ rfl ?_
  rintro ⟨k, M⟩ ⟨hk, hF, hM⟩
  dsimp only at hk hF hM ⊢
  repeat (first | refine gG ?_ | refine zN1 (fun hlen => ?_) | refine zN2 (fun hlen => ?_))
  refine x_cond rfl (fun h => ?_) (fun h => ?_)
  · have hk' : k < l.length := by simpa using h
    obtain ⟨a, ha⟩ := nthC hk'
    have hat := int_at ha
    have hc1 := hM a
    have hc2 : (mget a (mput a (.lit (.int .i64 ((cnt a (l.take k) + 1 : Nat) : Int))) M)).getD (.lit (.int .i64 0)) = .lit (.int .i64 ((cnt a (l.take k) + 1 : Nat) : Int)) := by
      rw [mget_put, if_pos rfl]; rfl
    have hM' : ∀ n, (mget n (mput a (.lit (.int .i64 ((cnt a (l.take k) + 1 : Nat) : Int))) M)).getD (.lit (.int .i64 0)) = .lit (.int .i64 (cnt n (l.take (k + 1)))) := by
      intro n
      rw [mget_put, take_snocI ha, cnt_snoc]
      by_cases e : n = a
      · subst e; rw [if_pos rfl, if_pos rfl]; rfl
      · rw [if_neg e, if_neg (Ne.symm e), Nat.add_zero]; exact hM n
    have hcl : cnt a (l.take k) ≤ 1048576 := by
      have h1 := cnt_le a l k
      have h2 : cnt a l ≤ l.length := List.countP_le_length
      omega
    have hno := fun h => freeTo_no (D := D) ha h
    have hyes := fun h => freeTo_yes hF ha h
    have hH : holdN D a = match getS a D with | some p => p.h | none => 0 := rfl
    clear h ha hM hF
    rcases look_n (D := D) a with ⟨h0, h1, h2⟩ | ⟨p, h0, h1, h2⟩
    · rw [h0] at hH
      dsimp only at hH
      have hd : decide ((0 : Int) < ((cnt a (l.take k) + 1 : Nat) : Int)) = true := decide_eq_true (by omega)
      replace hno := hno (by rw [hH]; omega)
      rw [hno, if_neg (by simp)] at hE
      subst hE
      clear h0 hH hyes hD
      generalize cnt a (l.take k) = ct at *
      repeat (first | refine gG ?_ | refine zN1 (fun hlen => ?_) | refine zN2 (fun hlen => ?_))
      refine zIx k hk' ?_
      repeat (first | refine gG ?_ | refine zN1 (fun hlen => ?_) | refine zN2 (fun hlen => ?_))
      refine zEl1 hat ?_
      repeat (first | refine gG ?_ | refine zN1 (fun hlen => ?_) | refine zN2 (fun hlen => ?_))
      refine zLki 3 3 hc1 ?_
      repeat (first | refine gG ?_ | refine zN1 (fun hlen => ?_) | refine zN2 (fun hlen => ?_))
      refine zUpi 3 3 ?_
      repeat (first | refine gG ?_ | refine zN1 (fun hlen => ?_) | refine zN2 (fun hlen => ?_))
      refine ac_draw [1, 1, 1, 1, 1, 1, 1, 1, 1, 1, 1] [0, 1, 2, 3, 4, 5, 6, 7, 8, 9, 10] (by kernel_rfl) (by kernel_rfl) ?_
      refine gW ?_
      apply w_q; (focus exact rfl); (focus exact rfl); focus (intro _; (refine zLki 3 3 hc2 ?_); exact det_refl)
      refine gW ?_
      apply w_q; (focus exact rfl); (focus exact rfl); focus (intro _; (refine zLkin 3 108 h1 ?_); exact det_refl)
      apply w_q; (focus exact rfl); (focus exact rfl); focus (intro _; (refine zFd1 3 ?_); exact det_refl)
      refine gW ?_
      refine w_nil ?_
      repeat (first | refine gG ?_ | refine zN1 (fun hlen => ?_) | refine zN2 (fun hlen => ?_))
      refine zG ?_
      exact ⟨rfl, rfl⟩
    · rw [h0] at hH
      dsimp only at hH
      clear h0 hD
      obtain ⟨pn, pt, ph⟩ := p
      dsimp only at hH
      generalize cnt a (l.take k) = ct at *
      cases d0 : decide (ph < ((ct + 1 : Nat) : Int))
      · replace hyes := hyes (by rw [hH]; have := of_decide_eq_false d0; omega)
        clear hno
        repeat (first | refine gG ?_ | refine zN1 (fun hlen => ?_) | refine zN2 (fun hlen => ?_))
        refine zIx k hk' ?_
        repeat (first | refine gG ?_ | refine zN1 (fun hlen => ?_) | refine zN2 (fun hlen => ?_))
        refine zEl1 hat ?_
        repeat (first | refine gG ?_ | refine zN1 (fun hlen => ?_) | refine zN2 (fun hlen => ?_))
        refine zLki 3 3 hc1 ?_
        repeat (first | refine gG ?_ | refine zN1 (fun hlen => ?_) | refine zN2 (fun hlen => ?_))
        refine zUpi 3 3 ?_
        repeat (first | refine gG ?_ | refine zN1 (fun hlen => ?_) | refine zN2 (fun hlen => ?_))
        refine ac_draw [1, 1, 1, 1, 1, 1, 1, 1, 1, 1, 1] [0, 1, 2, 3, 4, 5, 6, 7, 8, 9, 10] (by kernel_rfl) (by kernel_rfl) ?_
        refine gW ?_
        apply w_q; (focus exact rfl); (focus exact rfl); focus (intro _; (refine zLki 3 3 hc2 ?_); exact det_refl)
        refine gW ?_
        apply w_q; (focus exact rfl); (focus exact rfl); focus (intro _; (refine zLkin 3 108 h1 ?_); exact det_refl)
        apply w_q; (focus exact rfl); (focus exact rfl); focus (intro _; (refine zFd1 3 ?_); exact det_refl)
        refine gW ?_
        refine w_nil ?_
        repeat (first | refine gG ?_ | refine zN1 (fun hlen => ?_) | refine zN2 (fun hlen => ?_))
        exact ⟨(k + 1, _), ⟨hk', hyes, hM'⟩, by simp only; omega, x_wkd 4 ⟨rfl, trivial⟩ rfl (by repeat (first | exact ag_refl | refine ag_upd rfl ?_ | refine ag_at rfl rfl ?_))⟩
      · replace hno := hno (by rw [hH]; exact of_decide_eq_true d0)
        rw [hno, if_neg (by simp)] at hE
        subst hE
        clear hyes
        repeat (first | refine gG ?_ | refine zN1 (fun hlen => ?_) | refine zN2 (fun hlen => ?_))
        refine zIx k hk' ?_
        repeat (first | refine gG ?_ | refine zN1 (fun hlen => ?_) | refine zN2 (fun hlen => ?_))
        refine zEl1 hat ?_
        repeat (first | refine gG ?_ | refine zN1 (fun hlen => ?_) | refine zN2 (fun hlen => ?_))
        refine zLki 3 3 hc1 ?_
        repeat (first | refine gG ?_ | refine zN1 (fun hlen => ?_) | refine zN2 (fun hlen => ?_))
        refine zUpi 3 3 ?_
        repeat (first | refine gG ?_ | refine zN1 (fun hlen => ?_) | refine zN2 (fun hlen => ?_))
        refine ac_draw [1, 1, 1, 1, 1, 1, 1, 1, 1, 1, 1] [0, 1, 2, 3, 4, 5, 6, 7, 8, 9, 10] (by kernel_rfl) (by kernel_rfl) ?_
        refine gW ?_
        apply w_q; (focus exact rfl); (focus exact rfl); focus (intro _; (refine zLki 3 3 hc2 ?_); exact det_refl)
        refine gW ?_
        apply w_q; (focus exact rfl); (focus exact rfl); focus (intro _; (refine zLkin 3 108 h1 ?_); exact det_refl)
        apply w_q; (focus exact rfl); (focus exact rfl); focus (intro _; (refine zFd1 3 ?_); exact det_refl)
        refine gW ?_
        refine w_nil ?_
        repeat (first | refine gG ?_ | refine zN1 (fun hlen => ?_) | refine zN2 (fun hlen => ?_))
        refine zG ?_
        exact ⟨rfl, rfl⟩
  · have hk' : k = l.length := by have : ¬ k < l.length := by simpa using h
                                  omega
    subst hk'
    rw [freeTo_end hF, if_pos rfl] at hE
    subst hE
    clear hF hM h hk
    repeat (first | refine gG ?_ | refine zN1 (fun hlen => ?_) | refine zN2 (fun hlen => ?_))
    refine x_drop 3 rfl ?_
    refine x_loop [9, 35, 36, 37, 38, 39, 40, 41, 42] (fun k : Nat => [(35, .c (.lit (.int .i64 (k : Nat))))]) (fun k => shP b bp bn (dropAll (l.take k) D)) (fun k => k ≤ l.length) (fun k => l.length - k) 0 (Nat.zero_le _) ⟨rfl, trivial⟩ rfl ?_
    intro k hk
    repeat (first | refine gG ?_ | refine zN1 (fun hlen => ?_) | refine zN2 (fun hlen => ?_))
    refine x_cond rfl (fun h => ?_) (fun h => ?_)
    · have hk' : k < l.length := by simpa using h
      obtain ⟨a, ha⟩ := nthC hk'
      have hat := int_at ha
      have hd := drop_ag b bp bn (dropAll (l.take k) D) (pok_all hD) a
      have hsn := dropAll_snoc (l.take k) a D
      rw [← take_snocI ha] at hsn
      rw [← hsn] at hd
      clear h ha hsn hD
      repeat (first | refine gG ?_ | refine zN1 (fun hlen => ?_) | refine zN2 (fun hlen => ?_))
      refine zIx k hk' ?_
      repeat (first | refine gG ?_ | refine zN1 (fun hlen => ?_) | refine zN2 (fun hlen => ?_))
      refine zEl1 hat ?_
      repeat (first | refine gG ?_ | refine zN1 (fun hlen => ?_) | refine zN2 (fun hlen => ?_))
      refine zCallG [0, 1, 2] hd ?_
      rintro _ _ ⟨rfl, rfl⟩
      refine ⟨_, _, re_refl, rfl, rfl, ?_⟩
      repeat (first | refine gG ?_ | refine zN1 (fun hlen => ?_) | refine zN2 (fun hlen => ?_))
      exact ⟨k + 1, hk', by omega, x_wkd 3 ⟨rfl, trivial⟩ rfl (by repeat (first | exact ag_refl | refine ag_upd rfl ?_ | refine ag_at rfl rfl ?_))⟩
    · have hk' : k = l.length := by have : ¬ k < l.length := by simpa using h
                                    omega
      subst hk'
      rw [List.take_length]
      repeat (first | refine gG ?_ | refine zN1 (fun hlen => ?_) | refine zN2 (fun hlen => ?_))
      refine zG ?_
      exact ⟨rfl, rfl⟩
end Go.Proofs.Ytdogdjcjmhogmaa
namespace Go.Proofs.Ytdogdjcjmhogmaa
open Go.RowKit
def ClonedB (d : List UInt8) (r : AV) (hs : List Blk) : Prop := ∃ v, r = .own 0 v ∧ hs = [.row v 5 1 d.length (byts d)]
theorem flat_byts : ∀ l : List UInt8, flatTs (byts l) = true
  | [] => rfl
  | a :: l => by
    show flatTs (bytT a :: byts l) = true
    rw [flatTs, flat_byts l]; rfl
set_option maxRecDepth 100000 in
set_option maxHeartbeats 1000000 in
theorem cloneB_ag (l : List UInt8) (hl : l.length ≤ 1048576) : AG Try.prog 71 [.c (bytRow l)] [] (ClonedB l) := by
  refine ag_enter (1) tok Try.func71 Try.ntmps71 Try.results71 rfl (by kernel_rfl) rfl fun F => ?_
  repeat (first | refine gG ?_ | refine zAp (fun _ => ?_))
  refine zNs (fun b hb => ?_)
  cases b
  · repeat (first | refine gX ?_ | refine zAp (fun _ => ?_))
    refine zBo (fun _ => ?_)
    repeat (first | refine gG ?_ | refine zAp (fun _ => ?_))
    refine zG ?_
    exact ⟨_, rfl, by simp only [List.nil_append, Nat.zero_add]⟩
  · have h0 := hb rfl
    have : l = [] := List.eq_nil_of_length_eq_zero h0
    subst this
    repeat (first | refine gO ?_ | refine ac_seq ?_ | refine ac_block ?_ | refine ac_region ?_ | refine ac_skip ?_ | refine zT ?_)
    refine x_own 2 5 1 rfl rfl rfl rfl rfl ?_
    repeat (first | refine gG ?_ | refine zAp (fun _ => ?_))
    refine zG ?_
    exact ⟨_, rfl, rfl⟩
def rowsB (L : List (List UInt8)) : List T := L.map bytRow
def cutL (d : List UInt8) : List (List UInt8) := cutsF d.length d
theorem cutsF_more : ∀ (f g : Nat) (l : List UInt8), l.length ≤ f → l.length ≤ g → cutsF f l = cutsF g l
  | 0, g, l, hf, _ => by
    have : l = [] := List.eq_nil_of_length_eq_zero (by omega)
    subst this
    rw [cutsF_nil, cutsF_nil]
  | f + 1, 0, l, _, hg => by
    have : l = [] := List.eq_nil_of_length_eq_zero (by omega)
    subst this
    rw [cutsF_nil, cutsF_nil]
  | f + 1, g + 1, l, hf, hg => by
    rw [cutsF, cutsF]
    by_cases h : l = []
    · rw [if_pos h, if_pos h]
    · rw [if_neg h, if_neg h]
      have h0 : 0 < l.length := List.length_pos_iff.2 h
      have := cl_pos (f := 32) (l := l) (by omega) h0
      rw [cutsF_more f g (l.drop (cl 32 l)) (by rw [List.length_drop]; omega) (by rw [List.length_drop]; omega)]
theorem cutL_step {d : List UInt8} (h : 0 < d.length) : cutL d = d.take (cl 32 d) :: cutL (d.drop (cl 32 d)) := by
  unfold cutL
  rw [cutsF_step h (Nat.le_refl _)]
  have := cl_pos (f := 32) (l := d) (by omega) h
  rw [cutsF_more (d.length - 1) (d.drop (cl 32 d)).length _ (by rw [List.length_drop]; omega) (Nat.le_refl _)]
theorem cutL_nil : cutL [] = [] := rfl
theorem byte_at {l : List UInt8} {k : Nat} {c : UInt8} (h : l[k]? = some c) : (byts l)[k * 1]? = some (bytT c) := by
  unfold byts
  rw [Nat.mul_one, List.getElem?_map, h]; rfl
theorem rowsB_snoc (L : List (List UInt8)) (x : List UInt8) : rowsB (L ++ [x]) = rowsB L ++ [bytRow x] := by simp [rowsB]
set_option maxRecDepth 100000 in
set_option maxHeartbeats 4000000 in
theorem cut_af (d : List UInt8) (hd : d.length ≤ 1048576) : AF Try.prog 47 [bytRow d] (· = .row (cutL d).length 1 (rowsB (cutL d))) := by
  refine af_enter tok Try.func47 Try.ntmps47 Try.results47 rfl (by kernel_rfl) rfl rfl fun F hX => ?_
  repeat (first | refine gG ?_ | refine zN1 (fun hlen => ?_) | refine zN2 (fun hlen => ?_) | refine zAp (fun _ => ?_))
  refine x_own 3 32 1 rfl rfl rfl rfl rfl ?_
  refine x_loop [0, 3, 4, 5, 6, 7, 8, 9, 10, 11, 12, 13, 14, 15, 16, 17, 18, 19, 20, 21, 22, 23, 24, 25, 26, 27, 28, 29, 30, 31, 32, 33] (fun y : List UInt8 × List (List UInt8) × Value => [(0, .c (bytRow y.1)), (3, .own 0 y.2.2)]) (fun y => [.row y.2.2 32 1 y.2.1.length (rowsB y.2.1)]) (fun y => cutL d = y.2.1 ++ cutL y.1 ∧ y.1.length + y.2.1.length ≤ d.length) (fun y => y.1.length) (d, [], .slice none 0 0) ⟨rfl, by simp⟩ ⟨rfl, rfl, trivial⟩ rfl ?_
  rintro ⟨r, L, v⟩ ⟨hE, hlen⟩
  dsimp only at hE hlen ⊢
  rcases Nat.eq_zero_or_pos r.length with h0 | h0
  · have : r = [] := List.eq_nil_of_length_eq_zero h0
    subst this
    rw [cutL_nil, List.append_nil] at hE
    repeat (first | refine gG ?_ | refine zN1 (fun hlen => ?_) | refine zN2 (fun hlen => ?_) | refine zAp (fun _ => ?_))
    first | refine zR ?_ | refine zQ ?_
    rw [hE]
    rfl
  · have hd0 : decide ((0 : Int) < ((r.length : Nat) : Int)) = true := decide_eq_true (by omega)
    rw [cutL_step h0] at hE
    repeat (first | refine ac_seq ?_ | refine ac_region ?_ | refine ac_skip ?_ | refine zT ?_ | refine gO ?_ | refine zN1 (fun hlen => ?_))
    refine ac_block ?_
    repeat (first | refine ac_seq ?_ | refine ac_region ?_ | refine ac_skip ?_ | refine zT ?_ | refine gO ?_ | refine zN1 (fun hlen => ?_))
    refine x_join [4, 8, 9, 10, 11, 12, 13, 14, 15, 16, 17, 18, 19, 20, 21, 22, 23] (fun _ : Unit => [(4, .c (.lit (.int .i64 ((cl 32 r : Nat) : Int))))]) (fun _ => [.row v 32 1 L.length (rowsB L)]) ?_ ?_
    · rintro ⟨⟩
      have hcl := cl_le 32 r
      have hcp := cl_pos (f := 32) (l := r) (by omega) h0
      have hC := cloneB_ag (r.take (cl 32 r)) (by rw [List.length_take]; omega)
      have hfl := flat_byts (r.take (cl 32 r))
      have hsn := rowsB_snoc L (r.take (cl 32 r))
      have hdl : (r.drop (cl 32 r)).length = r.length - cl 32 r := List.length_drop
      generalize hp : r.take (cl 32 r) = p at *
      repeat (first | refine gG ?_ | refine zN1 (fun hlen => ?_) | refine zN2 (fun hlen => ?_) | refine zAp (fun _ => ?_))
      refine zPhb (cl 32 r) hcl.2 ?_
      rw [hp]
      repeat (first | refine gG ?_ | refine zN1 (fun hlen => ?_) | refine zN2 (fun hlen => ?_) | refine zAp (fun _ => ?_))
      refine zPeekC hC (fun r hs h => h) hfl ?_
      repeat (first | refine gG ?_ | refine zN1 (fun hlen => ?_) | refine zN2 (fun hlen => ?_) | refine zAp (fun _ => ?_))
      refine zPlb (cl 32 r) hcl.2 ?_
      repeat (first | refine gG ?_ | refine zN1 (fun hlen => ?_) | refine zN2 (fun hlen => ?_) | refine zAp (fun _ => ?_))
      refine ⟨(r.drop (cl 32 r), L ++ [p], _), ⟨by rw [hE, List.append_assoc]; rfl, by simp only [List.length_append, List.length_cons, List.length_nil]; omega⟩, by simp only; omega, x_wkd 1 ⟨rfl, rfl, trivial⟩ ?_ (by repeat (first | exact ag_refl | refine ag_upd rfl ?_ | refine ag_at rfl rfl ?_))⟩
      simp only [hsn, List.length_append, List.length_cons, List.length_nil]
      rfl
    · refine ac_block ?_
      refine x_loop [4, 8, 9, 10, 11, 12, 13, 14, 15, 16, 17, 18, 19, 20, 21, 22, 23] (fun k : Nat => [(4, .c (.lit (.int .i64 (k : Nat))))]) (fun _ => [.row v 32 1 L.length (rowsB L)]) (fun k => k ≤ r.length ∧ k ≤ 32 ∧ cl 32 r = k + cl (32 - k) (r.drop k)) (fun k => 33 - k) 0 ⟨Nat.zero_le _, Nat.zero_le _, by simp⟩ ⟨rfl, trivial⟩ rfl ?_
      rintro k ⟨hk1, hk2, hI⟩
      by_cases hlt : k < r.length ∧ k < 32
      · obtain ⟨c, hc⟩ := nthC hlt.1
        have hat := byte_at hc
        have hck : r[k]'hlt.1 = c := by obtain ⟨h1, h2⟩ := List.getElem?_eq_some_iff.1 hc; exact h2
        have e1 : decide (((k : Nat) : Int) < ((r.length : Nat) : Int)) = true := decide_eq_true (by omega)
        have e2 : decide (((k : Nat) : Int) < 32) = true := decide_eq_true (by omega)
        have hhit := cl_hit hlt.1 hlt.2 hI
        have hmiss := cl_miss hlt.1 hlt.2 hI
        rw [hck] at hhit hmiss
        cases d0 : decide ((((c.toNat : Nat) : Int)) = 10)
        · replace hmiss := hmiss (fun e => by rw [e] at d0; exact absurd d0 (by decide))
          clear hhit hc hI hE hck
          repeat (first | refine gG ?_ | refine zN1 (fun hlen => ?_) | refine zN2 (fun hlen => ?_) | refine zAp (fun _ => ?_))
          refine lo_sub rfl rfl (r := ((k : Nat) : Int)) (by rw [IntWalk.i64_in _ (by omega)]; omega) ?_
          repeat (first | refine gG ?_ | refine zN1 (fun hlen => ?_) | refine zN2 (fun hlen => ?_) | refine zAp (fun _ => ?_))
          refine zIx k hlt.1 ?_
          repeat (first | refine gG ?_ | refine zN1 (fun hlen => ?_) | refine zN2 (fun hlen => ?_) | refine zAp (fun _ => ?_))
          refine zEl1 hat ?_
          repeat (first | refine gG ?_ | refine zN1 (fun hlen => ?_) | refine zN2 (fun hlen => ?_) | refine zAp (fun _ => ?_))
          exact ⟨k + 1, ⟨hlt.1, hlt.2, hmiss⟩, by omega, x_wkd 1 ⟨rfl, trivial⟩ rfl (by repeat (first | exact ag_refl | refine ag_upd rfl ?_ | refine ag_at rfl rfl ?_))⟩
        · have h10 : c = 10 := by
            have := of_decide_eq_true d0
            exact UInt8.toNat_inj.1 (by rw [show (10 : UInt8).toNat = 10 from rfl]; omega)
          replace hhit := hhit h10
          clear hmiss hc hI hE hck
          repeat (first | refine gG ?_ | refine zN1 (fun hlen => ?_) | refine zN2 (fun hlen => ?_) | refine zAp (fun _ => ?_))
          refine lo_sub rfl rfl (r := ((k : Nat) : Int)) (by rw [IntWalk.i64_in _ (by omega)]; omega) ?_
          repeat (first | refine gG ?_ | refine zN1 (fun hlen => ?_) | refine zN2 (fun hlen => ?_) | refine zAp (fun _ => ?_))
          refine zIx k hlt.1 ?_
          repeat (first | refine gG ?_ | refine zN1 (fun hlen => ?_) | refine zN2 (fun hlen => ?_) | refine zAp (fun _ => ?_))
          refine zEl1 hat ?_
          repeat (first | refine gG ?_ | refine zN1 (fun hlen => ?_) | refine zN2 (fun hlen => ?_) | refine zAp (fun _ => ?_))
          exact ⟨(), x_wkd 1 ⟨by rw [hhit]; rfl, trivial⟩ rfl (by repeat (first | exact ag_refl | refine ag_upd rfl ?_ | refine ag_at rfl rfl ?_))⟩
      · have hend := cl_end hlt hI
        clear hI hE
        cases e1 : decide (((k : Nat) : Int) < ((r.length : Nat) : Int))
        · clear hlt
          repeat (first | refine gG ?_ | refine zN1 (fun hlen => ?_) | refine zN2 (fun hlen => ?_) | refine zAp (fun _ => ?_))
          exact ⟨(), x_wkd 1 ⟨by rw [hend]; rfl, trivial⟩ rfl (by repeat (first | exact ag_refl | refine ag_upd rfl ?_ | refine ag_at rfl rfl ?_))⟩
        · have e2 : decide (((k : Nat) : Int) < 32) = false := decide_eq_false (by have := of_decide_eq_true e1; omega)
          clear hlt
          repeat (first | refine gG ?_ | refine zN1 (fun hlen => ?_) | refine zN2 (fun hlen => ?_) | refine zAp (fun _ => ?_))
          exact ⟨(), x_wkd 1 ⟨by rw [hend]; rfl, trivial⟩ rfl (by repeat (first | exact ag_refl | refine ag_upd rfl ?_ | refine ag_at rfl rfl ?_))⟩
end Go.Proofs.Ytdogdjcjmhogmaa
namespace Go.Proofs.Ytdogdjcjmhogmaa
open Go.RowKit
def strsB (L : List (List UInt8)) : List T := L.map fun p => .lit (.string (bs p))
theorem strsB_snoc (L : List (List UInt8)) (x : List UInt8) : strsB (L ++ [x]) = strsB L ++ [.lit (.string (bs x))] := by simp [strsB]
theorem cutL_full {cur rest : List UInt8} {c : UInt8} (h : ∀ x ∈ cur, x ≠ 10) (hl : cur.length ≤ 31) (hc : c = 10 ∨ cur.length = 31) : cutL (cur ++ c :: rest) = (cur ++ [c]) :: cutL rest := by
  unfold cutL
  rw [cutsF_full h hl hc (Nat.le_refl _)]
  rw [cutsF_more _ rest.length rest (by rw [List.length_append, List.length_cons]; omega) (Nat.le_refl _)]
theorem cutL_last {cur : List UInt8} (h : ∀ x ∈ cur, x ≠ 10) (hl : cur.length ≤ 31) (h0 : cur ≠ []) : cutL cur = [cur] := cutsF_last h hl h0 (Nat.le_refl _)
set_option maxRecDepth 100000 in
set_option maxHeartbeats 4000000 in
theorem cuts_af (d : List UInt8) (hd : d.length ≤ 1048576) : AF Try.prog 48 [bytRow d] (· = .row (cutL d).length 1 (strsB (cutL d))) := by
  refine af_enter tok Try.func48 Try.ntmps48 Try.results48 rfl (by kernel_rfl) rfl rfl fun F hX => ?_
  repeat (first | refine gG ?_ | refine zN1 (fun hlen => ?_) | refine zN2 (fun hlen => ?_) | refine zAp (fun _ => ?_))
  refine x_own 3 9 1 rfl rfl rfl rfl rfl ?_
  refine x_loop [3, 4, 6, 9, 10, 11, 12, 13, 14, 15, 16, 17, 18, 19, 20, 21, 22, 23, 24, 25, 26, 27, 28, 29] (fun y : Nat × List UInt8 × List (List UInt8) × Value => [(9, .c (.lit (.int .i64 (y.1 : Nat)))), (4, .c (.lit (.string (bs y.2.1)))), (3, .own 0 y.2.2.2)]) (fun y => [.row y.2.2.2 9 1 y.2.2.1.length (strsB y.2.2.1)]) (fun y => y.1 ≤ d.length ∧ cutL d = y.2.2.1 ++ cutL (y.2.1 ++ d.drop y.1) ∧ (∀ x ∈ y.2.1, x ≠ 10) ∧ y.2.1.length ≤ 31 ∧ y.2.2.1.length ≤ y.1) (fun y => d.length - y.1) (0, [], [], .slice none 0 0) ⟨Nat.zero_le _, rfl, fun _ h => by simp at h, by simp, by simp⟩ ⟨rfl, rfl, rfl, trivial⟩ rfl ?_
  rintro ⟨k, cur, L, v⟩ ⟨hk, hE, hN, hC, hL⟩
  dsimp only at hk hE hN hC hL ⊢
  repeat (first | refine gG ?_ | refine zN1 (fun hlen => ?_) | refine zN2 (fun hlen => ?_) | refine zAp (fun _ => ?_))
  refine x_cond rfl (fun h => ?_) (fun h => ?_)
  · have hk' : k < d.length := by simpa using h
    obtain ⟨c, hc⟩ := nthC hk'
    have hat := byte_at hc
    have hdr : d.drop k = c :: d.drop (k + 1) := by
      obtain ⟨h1, rfl⟩ := List.getElem?_eq_some_iff.1 hc
      exact List.drop_eq_getElem_cons h1
    rw [hdr] at hE
    have hfull := fun hx => cutL_full (rest := d.drop (k + 1)) hN hC hx (c := c)
    have hbl : (bs (cur ++ [c])).size = cur.length + 1 := by rw [bs_size']; simp
    have hsn := strsB_snoc L (cur ++ [c])
    clear h hc hdr
    cases d0 : decide ((((c.toNat : Nat) : Int)) = 10)
    · have hc10 : c ≠ 10 := fun e => by rw [e] at d0; exact absurd d0 (by decide)
      cases d1 : decide ((((bs (cur ++ [c])).size : Nat) : Int) = 32)
      · have h31 : cur.length + 1 ≠ 32 := fun e => of_decide_eq_false d1 (by rw [hbl]; omega)
        have hE' : cutL d = L ++ cutL ((cur ++ [c]) ++ d.drop (k + 1)) := by rw [hE]; simp
        have hN' : ∀ x ∈ cur ++ [c], x ≠ 10 := by
          intro x hx
          rcases List.mem_append.1 hx with hx | hx
          · exact hN x hx
          · rw [List.mem_singleton.1 hx]; exact hc10
        clear hE hN hfull hbl hsn
        repeat (first | refine gG ?_ | refine zN1 (fun hlen => ?_) | refine zN2 (fun hlen => ?_) | refine zAp (fun _ => ?_))
        refine zIx k hk' ?_
        repeat (first | refine gG ?_ | refine zN1 (fun hlen => ?_) | refine zN2 (fun hlen => ?_) | refine zAp (fun _ => ?_))
        refine zEl1 hat ?_
        repeat (first | refine gG ?_ | refine zN1 (fun hlen => ?_) | refine zN2 (fun hlen => ?_) | refine zAp (fun _ => ?_))
        refine zStr [c] rfl rfl ?_
        repeat (first | refine gG ?_ | refine zN1 (fun hlen => ?_) | refine zN2 (fun hlen => ?_) | refine zAp (fun _ => ?_))
        refine zCatb cur [c] (by rw [List.length_cons, List.length_nil]; omega) ?_
        repeat (first | refine gG ?_ | refine zN1 (fun hlen => ?_) | refine zN2 (fun hlen => ?_) | refine zAp (fun _ => ?_))
        exact ⟨(k + 1, cur ++ [c], L, v), ⟨hk', hE', hN', by simp only [List.length_append, List.length_cons, List.length_nil]; omega, by simp only; omega⟩, by simp only; omega, x_wkd 1 ⟨rfl, rfl, rfl, trivial⟩ rfl (by repeat (first | exact ag_refl | refine ag_upd rfl ?_ | refine ag_at rfl rfl ?_))⟩
      · have hE' : cutL d = (L ++ [cur ++ [c]]) ++ cutL ([] ++ d.drop (k + 1)) := by
          rw [hE, hfull (.inr (by have := of_decide_eq_true d1; rw [hbl] at this; omega))]; simp
        clear hE hN hfull hbl
        repeat (first | refine gG ?_ | refine zN1 (fun hlen => ?_) | refine zN2 (fun hlen => ?_) | refine zAp (fun _ => ?_))
        refine zIx k hk' ?_
        repeat (first | refine gG ?_ | refine zN1 (fun hlen => ?_) | refine zN2 (fun hlen => ?_) | refine zAp (fun _ => ?_))
        refine zEl1 hat ?_
        repeat (first | refine gG ?_ | refine zN1 (fun hlen => ?_) | refine zN2 (fun hlen => ?_) | refine zAp (fun _ => ?_))
        refine zStr [c] rfl rfl ?_
        repeat (first | refine gG ?_ | refine zN1 (fun hlen => ?_) | refine zN2 (fun hlen => ?_) | refine zAp (fun _ => ?_))
        refine zCatb cur [c] (by rw [List.length_cons, List.length_nil]; omega) ?_
        repeat (first | refine gG ?_ | refine zN1 (fun hlen => ?_) | refine zN2 (fun hlen => ?_) | refine zAp (fun _ => ?_))
        refine ⟨(k + 1, [], L ++ [cur ++ [c]], _), ⟨hk', hE', fun _ h => by simp at h, by simp, by simp only [List.length_append, List.length_cons, List.length_nil]; omega⟩, by simp only; omega, x_wkd 1 ⟨rfl, rfl, rfl, trivial⟩ ?_ (by repeat (first | exact ag_refl | refine ag_upd rfl ?_ | refine ag_at rfl rfl ?_))⟩
        simp only [hsn, List.length_append, List.length_cons, List.length_nil]
        rfl
    · have h10 : c = 10 := by
        have := of_decide_eq_true d0
        exact UInt8.toNat_inj.1 (by rw [show (10 : UInt8).toNat = 10 from rfl]; omega)
      have hE' : cutL d = (L ++ [cur ++ [c]]) ++ cutL ([] ++ d.drop (k + 1)) := by rw [hE, hfull (.inl h10)]; simp
      clear hE hN hfull hbl
      repeat (first | refine gG ?_ | refine zN1 (fun hlen => ?_) | refine zN2 (fun hlen => ?_) | refine zAp (fun _ => ?_))
      refine zIx k hk' ?_
      repeat (first | refine gG ?_ | refine zN1 (fun hlen => ?_) | refine zN2 (fun hlen => ?_) | refine zAp (fun _ => ?_))
      refine zEl1 hat ?_
      repeat (first | refine gG ?_ | refine zN1 (fun hlen => ?_) | refine zN2 (fun hlen => ?_) | refine zAp (fun _ => ?_))
      refine zStr [c] rfl rfl ?_
      repeat (first | refine gG ?_ | refine zN1 (fun hlen => ?_) | refine zN2 (fun hlen => ?_) | refine zAp (fun _ => ?_))
      refine zCatb cur [c] (by rw [List.length_cons, List.length_nil]; omega) ?_
      repeat (first | refine gG ?_ | refine zN1 (fun hlen => ?_) | refine zN2 (fun hlen => ?_) | refine zAp (fun _ => ?_))
      refine ⟨(k + 1, [], L ++ [cur ++ [c]], _), ⟨hk', hE', fun _ h => by simp at h, by simp, by simp only [List.length_append, List.length_cons, List.length_nil]; omega⟩, by simp only; omega, x_wkd 1 ⟨rfl, rfl, rfl, trivial⟩ ?_ (by repeat (first | exact ag_refl | refine ag_upd rfl ?_ | refine ag_at rfl rfl ?_))⟩
      simp only [hsn, List.length_append, List.length_cons, List.length_nil]
      rfl
  · have hk' : k = d.length := by have : ¬ k < d.length := by simpa using h
                                  omega
    subst hk'
    rw [List.drop_length, List.append_nil] at hE
    clear h hk
    by_cases h0 : cur = []
    · subst h0
      rw [cutL_nil, List.append_nil] at hE
      have d0 : (!decide (bs [] = (⟨#[]⟩ : ByteArray))) = false := by rw [decide_eq_true (show bs [] = (⟨#[]⟩ : ByteArray) from rfl)]; rfl
      repeat (first | refine gG ?_ | refine zN1 (fun hlen => ?_) | refine zN2 (fun hlen => ?_) | refine zAp (fun _ => ?_))
      first | refine zR ?_ | refine zQ ?_
      rw [hE]
      rfl
    · rw [cutL_last hN hC h0] at hE
      have d0 : (!decide (bs cur = (⟨#[]⟩ : ByteArray))) = true := by
        rw [decide_eq_false fun e => h0 (bs_inj (e.trans (show (⟨#[]⟩ : ByteArray) = bs [] from rfl)))]; rfl
      have hsn := strsB_snoc L cur
      have hll : (cutL d).length = L.length + 1 := by rw [hE]; simp
      rw [← hE] at hsn
      generalize cutL d = Z at *
      clear hE hN h0
      repeat (first | refine gG ?_ | refine zN1 (fun hlen => ?_) | refine zN2 (fun hlen => ?_) | refine zAp (fun _ => ?_))
      first | refine zR ?_ | refine zQ ?_
      rw [hll, hsn]
      rfl
def KeepR (b bp bn : Nat) (q : (List Int × Int) × List Pc) (r : AV) (hs : List Blk) : Prop := r = .tup [.c (intRow q.1.1), .c (.lit (.int .i64 q.1.2))] ∧ hs = shP b bp bn q.2
theorem rowsB_at {L : List (List UInt8)} {k : Nat} {p : List UInt8} (h : L[k]? = some p) : (rowsB L)[k * 1]? = some (bytRow p) := by
  unfold rowsB
  rw [Nat.mul_one, List.getElem?_map, h]; rfl
theorem strsB_at {L : List (List UInt8)} {k : Nat} {p : List UInt8} (h : L[k]? = some p) : (strsB L)[k * 1]? = some (.lit (.string (bs p))) := by
  unfold strsB
  rw [Nat.mul_one, List.getElem?_map, h]; rfl
theorem ints_snoc (l : List Int) (n : Int) : (l ++ [n]).flatMap intTs = l.flatMap intTs ++ [.lit (.int .i64 n)] := by rw [List.flatMap_append]; rfl
theorem keep_err {b : ByteArray} {r : List ByteArray} {out : List Int} {D : List Pc} (h : ¬ (putS b D).1.2 = 0) : keepS (b :: r) out D = (([], (putS b D).1.2), dropAll out (putS b D).2) := by rw [keepS, if_neg h]
theorem keep_ok {b : ByteArray} {r : List ByteArray} {out : List Int} {D : List Pc} (h : (putS b D).1.2 = 0) : keepS (b :: r) out D = keepS r (out ++ [(putS b D).1.1]) (putS b D).2 := by rw [keepS, if_pos h]
theorem cutL_len : ∀ (n : Nat) (d : List UInt8), d.length ≤ n → (cutL d).length ≤ d.length
  | 0, d, h => by
    have : d = [] := List.eq_nil_of_length_eq_zero (by omega)
    subst this; simp [cutL_nil]
  | n + 1, d, h => by
    rcases Nat.eq_zero_or_pos d.length with h0 | h0
    · have : d = [] := List.eq_nil_of_length_eq_zero h0
      subst this; simp [cutL_nil]
    · rw [cutL_step h0, List.length_cons]
      have := cl_pos (f := 32) (l := d) (by omega) h0
      have := cutL_len n (d.drop (cl 32 d)) (by rw [List.length_drop]; omega)
      rw [List.length_drop] at this
      omega
set_option maxRecDepth 100000 in
set_option maxHeartbeats 4000000 in
theorem keep_ag (b bp bn : Nat) (D : List Pc) (hD : POk D) (d : List UInt8) (hd : d.length ≤ 1048576) : AG Try.prog 20 [.ptr 0 b 0, .c (bytRow d)] (shP b bp bn D) (KeepR b bp bn (keepS ((cutL d).map bs) [] D)) := by
  have hC := cut_af d hd
  have hcl := cutL_len d.length d (Nat.le_refl _)
  generalize cutL d = L at *
  have hpok : POk (keepS (L.map bs) [] D).2 := pok_keep hD
  generalize hQ : keepS (L.map bs) [] D = Q at *
  refine AG.re (R := fun r hs => (Q.1.2 = 0 ∧ r = .tup [.c (intRow Q.1.1), .c (.lit (.int .i64 0))] ∨ Q.1.1 = [] ∧ r = .tup [.c (.lit (.slice none 0 0)), .c (.lit (.int .i64 Q.1.2))]) ∧ hs = shP b bp bn Q.2) ?_ ?_
  rotate_left
  · rintro r hs ⟨⟨h0, rfl⟩ | ⟨h0, rfl⟩, rfl⟩
    · exact ⟨_, re_refl, by rw [h0], rfl⟩
    · exact ⟨_, re_tup2 (nil_row (sz := 1) (by omega)), by rw [h0]; rfl, rfl⟩
  refine ag_enter (3) tok Try.func20 Try.ntmps20 Try.results20 rfl (by kernel_rfl) rfl fun F => ?_
  repeat (first | refine gG ?_ | refine zN1 (fun hlen => ?_) | refine zN2 (fun hlen => ?_) | refine zAp (fun _ => ?_))
  refine zCall (hC) ?_
  rintro _ rfl
  repeat (first | refine gG ?_ | refine zN1 (fun hlen => ?_) | refine zN2 (fun hlen => ?_) | refine zAp (fun _ => ?_))
  refine x_own 6 3 1 rfl rfl rfl rfl rfl ?_
  refine x_loop [4, 5, 6, 8, 9, 10, 12, 16, 17, 18, 19, 20, 21, 22, 23, 24, 25, 26, 27, 28, 29, 30, 31, 32, 33, 34, 35, 36, 37, 38, 39, 40, 41, 42, 43] (fun y : Nat × List Int × Value × List Pc => [(16, .c (.lit (.int .i64 (y.1 : Nat)))), (6, .own 3 y.2.2.1)]) (fun y => shP b bp bn y.2.2.2 ++ [.row y.2.2.1 3 1 y.2.1.length (y.2.1.flatMap intTs)]) (fun y => y.1 ≤ L.length ∧ keepS ((L.drop y.1).map bs) y.2.1 y.2.2.2 = Q ∧ POk y.2.2.2 ∧ y.2.1.length ≤ y.1) (fun y => L.length - y.1) (0, [], .slice none 0 0, D) ⟨Nat.zero_le _, hQ, hD, by simp⟩ ⟨rfl, rfl, trivial⟩ rfl ?_
  clear hQ hD hC
  rintro ⟨k, out, v, D⟩ ⟨hk, hE, hD, hO⟩
  dsimp only at hk hE hD hO ⊢
  repeat (first | refine gG ?_ | refine zN1 (fun hlen => ?_) | refine zN2 (fun hlen => ?_) | refine zAp (fun _ => ?_))
  refine x_cond rfl (fun h => ?_) (fun h => ?_)
  · have hk' : k < L.length := by simpa using h
    obtain ⟨p, hp⟩ := nthC hk'
    have hat := rowsB_at hp
    have hdr : L.drop k = p :: L.drop (k + 1) := by
      obtain ⟨h1, rfl⟩ := List.getElem?_eq_some_iff.1 hp
      exact List.drop_eq_getElem_cons h1
    rw [hdr, List.map_cons] at hE
    have hP : AG Try.prog 16 [.ptr 0 b 0, .c (bytRow p)] (shP b bp bn D) (ShTells (putS (bs p) D).1.1 (putS (bs p) D).1.2 b bp bn (putS (bs p) D).2) := put_ag b bp bn D hD p
    have hpD := pok_put hD (bs p)
    have her := fun h => keep_err (r := (L.drop (k + 1)).map bs) (out := out) (D := D) (b := bs p) h
    have hok := fun h => keep_ok (r := (L.drop (k + 1)).map bs) (out := out) (D := D) (b := bs p) h
    generalize putS (bs p) D = q at *
    obtain ⟨⟨qn, qe⟩, D'⟩ := q
    dsimp only at hP hpD her hok
    clear h hp hdr hD
    cases d0 : decide (qe = 0)
    · have hne := of_decide_eq_false d0
      have d1 : (!decide (qe = 0)) = true := by rw [d0]; rfl
      rw [her hne] at hE
      subst hE
      clear her hok
      repeat (first | refine gG ?_ | refine zN1 (fun hlen => ?_) | refine zN2 (fun hlen => ?_) | refine zAp (fun _ => ?_))
      refine zIx k hk' ?_
      repeat (first | refine gG ?_ | refine zN1 (fun hlen => ?_) | refine zN2 (fun hlen => ?_) | refine zAp (fun _ => ?_))
      refine zEl1 hat ?_
      repeat (first | refine gG ?_ | refine zN1 (fun hlen => ?_) | refine zN2 (fun hlen => ?_) | refine zAp (fun _ => ?_))
      refine zCallG [0, 1, 2] hP ?_
      rintro _ _ ⟨rfl, rfl⟩
      refine ⟨.tup [.c (.lit (.int .i64 qn)), .c (.lit (.int .i64 qe))], _, re_refl, rfl, rfl, ?_⟩
      clear hP
      repeat (first | refine gG ?_ | refine zN1 (fun hlen => ?_) | refine zN2 (fun hlen => ?_) | refine zAp (fun _ => ?_))
      refine x_loop [12, 30, 31, 32, 33, 34, 35, 36, 37] (fun j : Nat => [(30, .c (.lit (.int .i64 (j : Nat))))]) (fun j => shP b bp bn (dropAll (out.take j) D') ++ [.row v 3 1 out.length (out.flatMap intTs)]) (fun j => j ≤ out.length) (fun j => out.length - j) 0 (Nat.zero_le _) ⟨rfl, trivial⟩ rfl ?_
      intro j hj
      repeat (first | refine gG ?_ | refine zN1 (fun hlen => ?_) | refine zN2 (fun hlen => ?_) | refine zAp (fun _ => ?_))
      refine x_cond rfl (fun h => ?_) (fun h => ?_)
      · have hj' : j < out.length := by simpa using h
        obtain ⟨a, ha⟩ := nthC hj'
        have hat2 := int_at ha
        have hd := drop_ag b bp bn (dropAll (out.take j) D') (pok_all hpD) a
        have hsn := dropAll_snoc (out.take j) a D'
        rw [← take_snocI ha] at hsn
        rw [← hsn] at hd
        clear h ha hsn
        repeat (first | refine gG ?_ | refine zN1 (fun hlen => ?_) | refine zN2 (fun hlen => ?_) | refine zAp (fun _ => ?_))
        refine zIxo j hj' ?_
        repeat (first | refine gG ?_ | refine zN1 (fun hlen => ?_) | refine zN2 (fun hlen => ?_) | refine zAp (fun _ => ?_))
        refine zElo1 hat2 ?_
        repeat (first | refine gG ?_ | refine zN1 (fun hlen => ?_) | refine zN2 (fun hlen => ?_) | refine zAp (fun _ => ?_))
        refine zCallG [0, 1, 2] hd ?_
        rintro _ _ ⟨rfl, rfl⟩
        refine ⟨_, _, re_refl, rfl, rfl, ?_⟩
        repeat (first | refine gG ?_ | refine zN1 (fun hlen => ?_) | refine zN2 (fun hlen => ?_) | refine zAp (fun _ => ?_))
        exact ⟨j + 1, hj', by omega, x_wkd 4 ⟨rfl, trivial⟩ rfl (by repeat (first | exact ag_refl | refine ag_upd rfl ?_ | refine ag_at rfl rfl ?_))⟩
      · have hj' : j = out.length := by have : ¬ j < out.length := by simpa using h
                                        omega
        subst hj'
        rw [List.take_length]
        repeat (first | refine gG ?_ | refine zN1 (fun hlen => ?_) | refine zN2 (fun hlen => ?_) | refine zAp (fun _ => ?_))
        refine zG ?_
        exact ⟨.inr ⟨rfl, rfl⟩, rfl⟩
    · have he0 := of_decide_eq_true d0
      have d1 : (!decide (qe = 0)) = false := by rw [d0]; rfl
      rw [hok he0] at hE
      have hsn := ints_snoc out qn
      clear her hok
      repeat (first | refine gG ?_ | refine zN1 (fun hlen => ?_) | refine zN2 (fun hlen => ?_) | refine zAp (fun _ => ?_))
      refine zIx k hk' ?_
      repeat (first | refine gG ?_ | refine zN1 (fun hlen => ?_) | refine zN2 (fun hlen => ?_) | refine zAp (fun _ => ?_))
      refine zEl1 hat ?_
      repeat (first | refine gG ?_ | refine zN1 (fun hlen => ?_) | refine zN2 (fun hlen => ?_) | refine zAp (fun _ => ?_))
      refine zCallG [0, 1, 2] hP ?_
      rintro _ _ ⟨rfl, rfl⟩
      refine ⟨.tup [.c (.lit (.int .i64 qn)), .c (.lit (.int .i64 qe))], _, re_refl, rfl, rfl, ?_⟩
      clear hP
      repeat (first | refine gG ?_ | refine zN1 (fun hlen => ?_) | refine zN2 (fun hlen => ?_) | refine zAp (fun _ => ?_))
      refine ⟨(k + 1, out ++ [qn], _, D'), ⟨hk', hE, hpD, by simp only [List.length_append, List.length_cons, List.length_nil]; omega⟩, by simp only; omega, x_wkd 4 ⟨rfl, rfl, trivial⟩ ?_ (by repeat (first | exact ag_refl | refine ag_upd rfl ?_ | refine ag_at rfl rfl ?_))⟩
      simp only [hsn, List.length_append, List.length_cons, List.length_nil]
      rfl
  · have hk' : k = L.length := by have : ¬ k < L.length := by simpa using h
                                  omega
    subst hk'
    rw [List.drop_length] at hE
    subst hE
    refine x_fz 6 rfl rfl rfl rfl ?_
    repeat (first | refine gG ?_ | refine zN1 (fun hlen => ?_) | refine zN2 (fun hlen => ?_) | refine zAp (fun _ => ?_))
    refine zG ?_
    exact ⟨.inl ⟨rfl, rfl⟩, rfl⟩
end Go.Proofs.Ytdogdjcjmhogmaa
namespace Go.Proofs.Ytdogdjcjmhogmaa
open Go.RowKit
abbrev PcB := Pc × Nat
def pcN (e : PcB) : Int := e.1.n
def ptrV (e : PcB) : T := .lit (.pointer (some ⟨e.2, 0, none⟩))
@[reducible] def hbB (e : PcB) : Blk := .box e.2 59 [.c (.lit (.string e.1.t)), .c (.lit (.int .i64 e.1.h))]
@[reducible] def rfM (br : Nat) (E : List PcB) : Blk := .mp br (mkeys (Value.int .i64) (assoc pcN ptrV E))
@[reducible] def rfP (br : Nat) (E : List PcB) : List Blk := rfM br E :: E.map hbB
theorem posK_fst {α : Type} [DecidableEq α] {κ : Pc → α} (k : α) : ∀ E : List PcB, posK (fun e => κ e.1) k E = posK κ k (E.map Prod.fst)
  | [] => rfl
  | e :: E => by
    rw [List.map_cons, posK, posK, posK_fst k E]
theorem getE (E : List PcB) (j : Nat) : (E.map Prod.fst)[j]? = (E[j]?).map Prod.fst := List.getElem?_map
theorem at_of {E : List PcB} {j : Nat} {p : Pc} (h : (E.map Prod.fst)[j]? = some p) : ∃ b, E[j]? = some (p, b) := by
  rw [getE] at h
  cases he : E[j]? with
  | none => rw [he] at h; cases h
  | some e =>
    rw [he] at h
    obtain ⟨q, b⟩ := e
    cases h
    exact ⟨b, rfl⟩
theorem box_row {E : List PcB} {j : Nat} {e : PcB} (a c : Blk) (h : E[j]? = some e) (x : List Blk) : ((a :: c :: E.map hbB) ++ x)[j + 2]? = some (hbB e) := by
  have h1 := fam_at hbB h
  rw [List.getElem?_append_left]
  · exact h1
  · have := (List.getElem?_eq_some_iff.1 h1).1
    simp only [List.length_cons]; omega
theorem assoc_setE {E : List PcB} {j : Nat} {p : Pc} {b : Nat} (h : E[j]? = some (p, b)) (q : Pc) (hq : q.n = p.n) : assoc pcN ptrV (E.set j (q, b)) = assoc pcN ptrV E :=
  map_set_same (fun e : PcB => (pcN e, ptrV e)) (q := (q, b)) h (by simp [pcN, ptrV, hq])
theorem fst_set (E : List PcB) (j : Nat) (q : Pc) (b : Nat) : (E.set j (q, b)).map Prod.fst = (E.map Prod.fst).set j q := List.map_set ..
theorem look_e {E : List PcB} (n : Int) : (getS n (E.map Prod.fst) = none ∧ (mget n (assoc pcN ptrV E)).getD (.lit (.pointer none)) = .lit (.pointer none)) ∨ ∃ j p b, posK Pc.n n (E.map Prod.fst) = some j ∧ getS n (E.map Prod.fst) = some p ∧ E[j]? = some (p, b) ∧ n = p.n ∧ (mget n (assoc pcN ptrV E)).getD (.lit (.pointer none)) = .lit (.pointer (some ⟨b, 0, none⟩)) := by
  have hg := get_pos pcN ptrV n E
  have hp : posK pcN n E = posK Pc.n n (E.map Prod.fst) := posK_fst (κ := Pc.n) n E
  rw [hp] at hg
  cases h : getS n (E.map Prod.fst) with
  | none => exact .inl ⟨rfl, by rw [hg, getS_none h]; rfl⟩
  | some p =>
    obtain ⟨j, h1, h2, h3⟩ := getS_some h
    obtain ⟨b, hb⟩ := at_of h2
    exact .inr ⟨j, p, b, h1, rfl, hb, h3, by rw [hg, h1, Option.bind_some, hb]; rfl⟩
theorem box_at {E : List PcB} {j : Nat} {e : PcB} (a : Blk) (h : E[j]? = some e) : (a :: E.map hbB)[j + 1]? = some (hbB e) := fam_at hbB h
theorem rf_set (br : Nat) {E : List PcB} {j : Nat} {p : Pc} {b : Nat} (h : E[j]? = some (p, b)) (q : Pc) (hq : q.n = p.n) : rfM br E :: (E.map hbB).set j (hbB (q, b)) = rfP br (E.set j (q, b)) := by
  rw [← List.map_set]
  unfold rfP rfM
  rw [assoc_setE h q hq]
def RTells (n e : Int) (br : Nat) (D : List Pc) (r : AV) (hs : List Blk) : Prop := ∃ E : List PcB, E.map Prod.fst = D ∧ r = .tup [.c (.lit (.int .i64 n)), .c (.lit (.int .i64 e))] ∧ hs = rfP br E
theorem entE {E : List PcB} {k : Nat} {u : Value} {t : T} (h : (mkeys (Value.int .i64) (assoc pcN ptrV E))[k]? = some (u, t)) : ∃ e, E[k]? = some e ∧ u = .int .i64 e.1.n ∧ t = .lit (.pointer (some ⟨e.2, 0, none⟩)) := by
  simp only [mkeys, assoc, List.map_map, List.getElem?_map] at h
  cases hD : E[k]? with
  | none => rw [hD] at h; cases h
  | some p =>
    rw [hD] at h
    simp only [Option.map_some, Option.some.injEq, Function.comp, Prod.mk.injEq] at h
    exact ⟨p, rfl, h.1.symm, h.2.symm⟩
theorem entLen {E : List PcB} : (mkeys (Value.int .i64) (assoc pcN ptrV E)).length = E.length := by simp [mkeys, assoc]
theorem perm_last {α : Type} (a x : α) (l : List α) : (a :: x :: l).Perm (a :: (l ++ [x])) := (List.perm_append_comm (l₂ := l) (l₁ := [x])).cons _
theorem take_all {α : Type} (a x : α) (l : List α) {n : Nat} (h : n = l.length) : (a :: (l ++ [x])).take (1 + n) = a :: l := by
  rw [show 1 + n = (a :: l).length by simp; omega]
  exact List.take_left (l₁ := a :: l) (l₂ := [x])
set_option maxRecDepth 100000 in
set_option maxHeartbeats 8000000 in
theorem rput_ag (br : Nat) (E : List PcB) (hD : POk (E.map Prod.fst)) (d : List UInt8) : AG Try.prog 17 [.own 0 (.map (some br)), .c (bytRow d)] (rfP br E) (RTells (putS ⟨d.toArray⟩ (E.map Prod.fst)).1.1 (putS ⟨d.toArray⟩ (E.map Prod.fst)).1.2 br (putS ⟨d.toArray⟩ (E.map Prod.fst)).2) := by
  have hln := hD.ln
  rw [List.length_map] at hln
  have hE := putS.eq_1 (⟨d.toArray⟩ : ByteArray) (E.map Prod.fst)
  rw [bsz] at hE
  generalize putS ⟨d.toArray⟩ (E.map Prod.fst) = Q at *
  cases d0 : decide ((32 : Int) < ((d.length : Nat) : Int))
  rotate_left
  · rw [if_pos (by have := of_decide_eq_true d0; omega)] at hE
    subst hE
    refine ag_enter (2 + E.length) tok Try.func17 Try.ntmps17 Try.results17 rfl (by kernel_rfl) rfl fun F => ?_
    repeat (first | refine gG ?_ | refine zN1 (fun hlen => ?_) | refine zN2 (fun hlen => ?_) | refine zBx (fun _ => ?_))
    refine zGS (hq := rfP br E) ?_ ⟨E, rfl, rfl, rfl⟩
    exact List.take_of_length_le (by simp; omega)
  rw [if_neg (by have := of_decide_eq_false d0; omega)] at hE
  have hall := get_pos pcN ptrV
  have hle500 : ((assoc pcN ptrV E).length : Nat) = E.length := assoc_len _ _ _
  refine ag_enter (2 + E.length) tok Try.func17 Try.ntmps17 Try.results17 rfl (by kernel_rfl) rfl fun F => ?_
  repeat (first | refine gG ?_ | refine zN1 (fun hlen => ?_) | refine zN2 (fun hlen => ?_) | refine zBx (fun _ => ?_))
  refine zRgS 3 57 (fun b' st c hsl => ?_)
  repeat (first | refine gO ?_)
  refine x_perm (hp' := .mpx br (mkeys (Value.int .i64) (assoc pcN ptrV E)) (some (st, c)) :: .it b' br st c [] :: E.map hbB) (perm_last _ _ _).symm ?_
  refine x_reptr 13 1 rfl ?_
  repeat (first | refine ac_seq ?_ | refine ac_block ?_)
  refine x_loop [4, 5, 6, 7, 14, 15, 16, 17, 18, 19, 20, 21, 22, 23, 24, 25, 26, 27, 28, 29, 30, 31, 32, 33, 34, 35, 36, 37, 38] (fun _ : List Nat => []) (fun P => .mpx br (mkeys (Value.int .i64) (assoc pcN ptrV E)) (some (st, c)) :: .it b' br st c P :: E.map hbB) (fun P => WalkP E.length P ∧ ∀ k ∈ P, ∀ e, E[k]? = some e → e.1.t ≠ bs d) (fun P => E.length - P.length) [] ⟨⟨List.nodup_nil, fun _ h => by simp at h⟩, fun _ h => by simp at h⟩ trivial rfl ?_
  rintro P ⟨hP, hPn⟩
  repeat (first | refine gG ?_ | refine zN1 (fun hlen => ?_) | refine zN2 (fun hlen => ?_) | refine zBx (fun _ => ?_))
  refine lo_next (j := 0) rfl rfl rfl (fun hd => ?_) (fun kk u t he hn => ?_)
  · have hnone : posK Pc.t (⟨d.toArray⟩ : ByteArray) (E.map Prod.fst) = none := posK_none.2 fun p hp e => by
      obtain ⟨x, hx, rfl⟩ := List.mem_map.1 hp
      obtain ⟨k, hk⟩ := List.getElem?_of_mem hx
      exact hPn k (hd k (by rw [entLen]; exact (List.getElem?_eq_some_iff.1 hk).1)) x hk e.symm
    rw [hnone] at hE
    dsimp only at hE
    rw [List.length_map] at hE
    clear hd hP hPn
    repeat (first | refine gO ?_ | refine ac_seq ?_ | refine ac_block ?_ | refine zF ?_ | refine ac_exit ?_)
    refine x_over ?_
    cases d1 : decide ((500 : Int) ≤ (((assoc pcN ptrV E).length : Nat) : Int))
    rotate_left
    · rw [if_pos (by have := of_decide_eq_true d1; omega)] at hE
      subst hE
      repeat (first | refine gG ?_ | refine zN1 (fun hlen => ?_) | refine zN2 (fun hlen => ?_) | refine zBx (fun _ => ?_))
      refine zMl (kT := 3) (eT := 57) ?_
      repeat (first | refine gG ?_ | refine zN1 (fun hlen => ?_) | refine zN2 (fun hlen => ?_) | refine zBx (fun _ => ?_))
      refine zGS (hq := rfP br E) (List.take_of_length_le (by simp; omega)) ⟨E, rfl, rfl, rfl⟩
    rw [if_neg (by have := of_decide_eq_false d1; omega)] at hE
    repeat (first | refine gG ?_ | refine zN1 (fun hlen => ?_) | refine zN2 (fun hlen => ?_) | refine zBx (fun _ => ?_))
    refine zMl (kT := 3) (eT := 57) ?_
    repeat (first | refine gG ?_ | refine zN1 (fun hlen => ?_) | refine zN2 (fun hlen => ?_) | refine zBx (fun _ => ?_))
    refine x_loop [8, 42, 43, 44, 45, 46, 47] (fun k : Nat => [(8, .c (.lit (.int .i64 ((k + 1 : Nat) : Int))))]) (fun _ => rfP br E) (FreeAt (E.map Prod.fst)) (fun k => E.length + 1 - k) 0 (free_zero _) ⟨rfl, trivial⟩ rfl ?_
    intro k hk
    have hle := hk.le
    rw [List.length_map] at hle
    rcases look_e (E := E) ((k + 1 : Nat) : Int) with ⟨l1, l2⟩ | ⟨j, p, bj, l1, l2, l3, l4, l5⟩
    · have hno := getS_none l1
      have hnm : ((k : Int) + 1) ∉ (E.map Prod.fst).map Pc.n := fun hm => by
        obtain ⟨p, hp, e⟩ := List.mem_map.1 hm
        exact posK_none.1 hno p hp (by rw [e]; omega)
      have hend := free_end hk hnm
      have hput := fun t => put_new (κ := pcN) (v := ptrV) (D := E) (k := ((k + 1 : Nat) : Int)) t ((posK_fst (κ := Pc.n) _ E).trans hno)
      have hz : leastN (E.map Prod.fst) = ((k + 1 : Nat) : Int) := by rw [hend]; rfl
      rw [hz] at hE
      clear hk hno hnm hend l1
      repeat (first | refine gG ?_ | refine zN1 (fun hlen => ?_) | refine zN2 (fun hlen => ?_) | refine zBx (fun _ => ?_))
      refine zLki 3 57 l2 ?_
      repeat (first | refine gG ?_ | refine zN1 (fun hlen => ?_) | refine zN2 (fun hlen => ?_) | refine zBx (fun _ => ?_))
      refine zStr d rfl rfl ?_
      repeat (first | refine gG ?_ | refine zN1 (fun hlen => ?_) | refine zN2 (fun hlen => ?_) | refine zBx (fun _ => ?_))
      refine lo_box rfl rfl (fun bx => ?_)
      repeat (first | refine gG ?_ | refine zN1 (fun hlen => ?_) | refine zN2 (fun hlen => ?_) | refine zBx (fun _ => ?_))
      refine zUpiS 3 57 (t := .lit (.pointer (some ⟨bx, 0, none⟩))) (hput _) ?_
      repeat (first | refine gG ?_ | refine zN1 (fun hlen => ?_) | refine zN2 (fun hlen => ?_) | refine zBx (fun _ => ?_))
      refine zGS (hq := rfP br (E ++ [(⟨((k + 1 : Nat) : Int), ⟨d.toArray⟩, 1⟩, bx)])) ?_ ?_
      rotate_left
      · exact ⟨E ++ [(⟨((k + 1 : Nat) : Int), ⟨d.toArray⟩, 1⟩, bx)], by rw [hE]; simp, by rw [hE]; rfl, rfl⟩
      have e1 : assoc pcN ptrV E ++ [(((k + 1 : Nat) : Int), T.lit (.pointer (some ⟨bx, 0, none⟩)))] = assoc pcN ptrV (E ++ [(⟨((k + 1 : Nat) : Int), ⟨d.toArray⟩, 1⟩, bx)]) := assoc_app pcN ptrV E (⟨((k + 1 : Nat) : Int), ⟨d.toArray⟩, 1⟩, bx)
      rw [e1]
      refine (List.take_of_length_le (by simp; omega)).trans ?_
      simp [rfP]
      rfl
    · have hm : ((k : Int) + 1) ∈ (E.map Prod.fst).map Pc.n := List.mem_map.2 ⟨p, List.mem_map.2 ⟨(p, bj), List.mem_of_getElem? l3, rfl⟩, by omega⟩
      have hst := free_step hk hm
      have hle2 := hst.le
      rw [List.length_map] at hle2
      clear hk hm l1 l2
      repeat (first | refine gG ?_ | refine zN1 (fun hlen => ?_) | refine zN2 (fun hlen => ?_) | refine zBx (fun _ => ?_))
      refine lo_asp (j + 1) (zLki 3 57 l5 ⟨_, _, rfl, ?_⟩)
      repeat (first | refine gG ?_ | refine zN1 (fun hlen => ?_) | refine zN2 (fun hlen => ?_) | refine zBx (fun _ => ?_))
      exact ⟨k + 1, hst, by omega, x_wk ⟨rfl, trivial⟩ rfl (by repeat (first | exact ag_refl | refine ag_upd rfl ?_ | refine ag_at rfl rfl ?_))⟩
  · obtain ⟨e, hEk, rfl, rfl⟩ := entE he
    have hkk : kk < E.length := (List.getElem?_eq_some_iff.1 hEk).1
    obtain ⟨⟨pn, pt, ph⟩, bk⟩ := e
    have hh := hD.hh ⟨pn, pt, ph⟩ (List.mem_map.2 ⟨_, List.mem_of_getElem? hEk, rfl⟩)
    dsimp only at hh
    have hw := walk_snoc hP.nd hP.lt hkk hn
    have hwl := walk_len hw.1 hw.2
    rw [List.length_append] at hwl
    simp only [List.length_cons, List.length_nil] at hwl
    cases ds : decide (pt = (⟨d.toArray⟩ : ByteArray))
    · have hPn' : ∀ k ∈ P ++ [kk], ∀ e, E[k]? = some e → e.1.t ≠ bs d := by
        intro k hk e hke
        rcases List.mem_append.1 hk with hk | hk
        · exact hPn k hk e hke
        · rw [List.mem_singleton.1 hk, hEk] at hke
          cases hke
          exact of_decide_eq_false ds
      clear hPn hP hn hE
      repeat (first | refine gO ?_ | refine ac_seq ?_ | refine ac_block ?_ | refine zT ?_ | refine ac_skip ?_ | refine ac_region ?_)
      refine zEn 0 he ?_
      repeat (first | refine gO ?_)
      refine x_as 7 (.ptr (kk + 2) bk 0) (fun M u h => re_lp M u h) ?_
      repeat (first | refine ac_seq ?_)
      refine ac_draw [1, 1, 1, 1, 1, 1, 1] [0, 1, 2, 3, 4, 5, 6] (by kernel_rfl) (by kernel_rfl) ?_
      refine gW ?_
      apply w_q; (focus exact rfl); (focus exact rfl); focus (intro _; (refine lo_load_box1 tok rfl (box_row _ _ hEk _) rfl rfl rfl ?_); exact det_refl)
      refine gW ?_
      apply w_q; (focus exact rfl); (focus exact rfl); focus (intro _; (refine zStr d rfl rfl ?_); exact det_refl)
      refine gW ?_
      refine w_nil ?_
      repeat (first | refine gG ?_ | refine zN1 (fun hlen => ?_) | refine zN2 (fun hlen => ?_) | refine zBx (fun _ => ?_))
      exact ⟨P ++ [kk], ⟨⟨hw.1, hw.2⟩, hPn'⟩, by simp only [List.length_append, List.length_cons, List.length_nil]; omega, x_wk trivial rfl (by repeat (first | exact ag_refl | refine ag_upd rfl ?_ | refine ag_at rfl rfl ?_))⟩
    · have hpt := of_decide_eq_true ds
      have hj : posK Pc.t (⟨d.toArray⟩ : ByteArray) (E.map Prod.fst) = some kk := by
        have h1 : (E.map Prod.fst)[kk]? = some ⟨pn, pt, ph⟩ := by rw [getE, hEk]; rfl
        have := posK_at (κ := Pc.t) hD.tn h1
        rw [← hpt]; exact this
      have h1 : (E.map Prod.fst)[kk]? = some ⟨pn, pt, ph⟩ := by rw [getE, hEk]; rfl
      rw [hj] at hE
      simp only [h1] at hE
      clear hPn hP hn hj h1
      repeat (first | refine gO ?_ | refine ac_seq ?_ | refine ac_block ?_ | refine zT ?_ | refine ac_skip ?_ | refine ac_region ?_)
      refine zEn 0 he ?_
      repeat (first | refine gO ?_)
      refine x_as 7 (.ptr (kk + 2) bk 0) (fun M u h => re_lp M u h) ?_
      repeat (first | refine ac_seq ?_)
      refine ac_draw [1, 1, 1, 1, 1, 1, 1] [0, 1, 2, 3, 4, 5, 6] (by kernel_rfl) (by kernel_rfl) ?_
      refine gW ?_
      apply w_q; (focus exact rfl); (focus exact rfl); focus (intro _; (refine lo_load_box1 tok rfl (box_row _ _ hEk _) rfl rfl rfl ?_); exact det_refl)
      refine gW ?_
      apply w_q; (focus exact rfl); (focus exact rfl); focus (intro _; (refine zStr d rfl rfl ?_); exact det_refl)
      refine gW ?_
      refine w_nil ?_
      repeat (first | refine zT ?_ | refine ac_seq ?_)
      refine x_over ?_
      refine x_reptr 7 (kk + 1) rfl ?_
      have hbx := box_at (rfM br E) hEk
      cases d2 : decide ((1000000 : Int) ≤ ph)
      · rw [if_neg (of_decide_eq_false d2)] at hE
        have hset := rf_set br hEk ⟨pn, pt, ph + 1⟩ rfl
        have hfs := fst_set E kk ⟨pn, pt, ph + 1⟩ bk
        repeat (first | refine gG ?_ | refine zN1 (fun hlen => ?_) | refine zN2 (fun hlen => ?_) | refine zBx (fun _ => ?_))
        refine lo_load_box1 tok rfl hbx rfl rfl rfl ?_
        repeat (first | refine gG ?_ | refine zN1 (fun hlen => ?_) | refine zN2 (fun hlen => ?_) | refine zBx (fun _ => ?_))
        refine lo_load_box1 tok rfl hbx rfl rfl rfl ?_
        repeat (first | refine gG ?_ | refine zN1 (fun hlen => ?_) | refine zN2 (fun hlen => ?_) | refine zBx (fun _ => ?_))
        refine lo_add rfl rfl (r := ph + 1) (by show IntKind.wrap .i64 (ph + 1) = ph + 1; exact IntWalk.i64_in _ (by have := of_decide_eq_false d2; omega)) ?_
        repeat (first | refine gG ?_ | refine zN1 (fun hlen => ?_) | refine zN2 (fun hlen => ?_) | refine zBx (fun _ => ?_))
        refine lo_store tok rfl hbx rfl rfl rfl rfl rfl ?_
        repeat (first | refine gG ?_ | refine zN1 (fun hlen => ?_) | refine zN2 (fun hlen => ?_) | refine zBx (fun _ => ?_))
        refine zGS (hq := rfP br (E.set kk (⟨pn, pt, ph + 1⟩, bk))) ?_ ?_
        rotate_left
        · exact ⟨_, by rw [hE]; exact hfs, by rw [hE]; rfl, rfl⟩
        rw [← hset]
        exact List.take_of_length_le (by simp; omega)
      · rw [if_pos (of_decide_eq_true d2)] at hE
        repeat (first | refine gG ?_ | refine zN1 (fun hlen => ?_) | refine zN2 (fun hlen => ?_) | refine zBx (fun _ => ?_))
        refine lo_load_box1 tok rfl hbx rfl rfl rfl ?_
        repeat (first | refine gG ?_ | refine zN1 (fun hlen => ?_) | refine zN2 (fun hlen => ?_) | refine zBx (fun _ => ?_))
        refine zGS (hq := rfP br E) (List.take_of_length_le (by simp; omega)) ?_
        exact ⟨E, by rw [hE], by rw [hE]; rfl, rfl⟩
end Go.Proofs.Ytdogdjcjmhogmaa
