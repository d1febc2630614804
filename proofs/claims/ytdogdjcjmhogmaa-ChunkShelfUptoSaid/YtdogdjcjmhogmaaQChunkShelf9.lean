/-
  Texts of this proof, part 9: Kch Kci Kac Kma Ab49 Kcj Open.
-/
import Derived.Test.YtdogdjcjmhogmaaQChunkShelf8
import Derived.Deep.Slices
import Derived.JoinedCond
import Derived.Lib.MinMax
import Derived.OpenShut
import Derived.ProofKit
import Derived.Test.YtdogdjcjmhogmaaRows
namespace Go.Proofs.Ytdogdjcjmhogmaa
open Go.RowKit
theorem box_out {E : List PcB} {j : Nat} {e e' : PcB} (h : E[j]? = some e) : ((E.set j e').map hbB).Perm ((E.eraseIdx j).map hbB ++ [hbB e']) := by
  have h1 : (E.set j e')[j]? = some e' := by simp [(List.getElem?_eq_some_iff.1 h).1]
  have h2 := fam_out (f := hbB) h1
  rw [List.eraseIdx_set_eq] at h2
  exact h2.trans (List.perm_append_comm (l₁ := [hbB e']))
theorem del_e {E : List PcB} {j : Nat} {p : Pc} (h : posK Pc.n p.n (E.map Prod.fst) = some j) : mdel p.n (assoc pcN ptrV E) = assoc pcN ptrV (E.eraseIdx j) := del_old ((posK_fst (κ := Pc.n) _ E).trans h)
theorem fst_erase (E : List PcB) (j : Nat) : (E.eraseIdx j).map Prod.fst = (E.map Prod.fst).eraseIdx j := by
  induction E generalizing j with
  | nil => simp
  | cons a E ih => cases j <;> simp [ih]
set_option maxRecDepth 100000 in
set_option maxHeartbeats 8000000 in
theorem rdrop_ag (br : Nat) (E : List PcB) (hD : POk (E.map Prod.fst)) (n : Int) : AG Try.prog 19 [.own 0 (.map (some br)), .c (.lit (.int .i64 n))] (rfP br E) (fun r hs => ∃ E' : List PcB, E'.map Prod.fst = (dropS n (E.map Prod.fst)).2 ∧ r = .c (.lit (.int .i64 (dropS n (E.map Prod.fst)).1)) ∧ hs = rfP br E') := by
  have hE := dropS.eq_1 n (E.map Prod.fst)
  generalize dropS n (E.map Prod.fst) = Q at *
  rcases look_e (E := E) n with ⟨l1, l2⟩ | ⟨j, p, bj, l1, l2, l3, rfl, l5⟩
  · rw [getS_none l1] at hE
    subst hE
    clear l1
    refine ag_enter (1 + E.length) tok Try.func19 Try.ntmps19 Try.results19 rfl (by kernel_rfl) rfl fun F => ?_
    repeat (first | refine gG ?_)
    refine zLki 3 57 l2 ?_
    repeat (first | refine gG ?_)
    refine zGS (hq := rfP br E) (List.take_of_length_le (by simp; omega)) ?_
    exact ⟨E, rfl, rfl, rfl⟩
  · have h1 : (E.map Prod.fst)[j]? = some p := by rw [getE, l3]; rfl
    have hh := hD.hh p (List.mem_of_getElem? h1)
    rw [l1] at hE
    simp only [h1] at hE
    have hbx := box_at (rfM br E) l3
    have hset := rf_set br l3 ⟨p.n, p.t, p.h - 1⟩ rfl
    have hfs := fst_set E j ⟨p.n, p.t, p.h - 1⟩ bj
    have hlk2 : (mget p.n (assoc pcN ptrV (E.set j (⟨p.n, p.t, p.h - 1⟩, bj)))).getD (.lit (.pointer none)) = .lit (.pointer (some ⟨bj, 0, none⟩)) := by rw [assoc_setE l3 ⟨p.n, p.t, p.h - 1⟩ rfl]; exact l5
    have hE2 : (E.set j (⟨p.n, p.t, p.h - 1⟩, bj))[j]? = some (⟨p.n, p.t, p.h - 1⟩, bj) := by simp [(List.getElem?_eq_some_iff.1 l3).1]
    have hbx2 := box_at (rfM br (E.set j (⟨p.n, p.t, p.h - 1⟩, bj))) hE2
    have hdel : mdel p.n (assoc pcN ptrV (E.set j (⟨p.n, p.t, p.h - 1⟩, bj))) = assoc pcN ptrV (E.eraseIdx j) := by rw [assoc_setE l3 ⟨p.n, p.t, p.h - 1⟩ rfl]; exact del_e l1
    have hout := box_out (e' := (⟨p.n, p.t, p.h - 1⟩, bj)) l3
    have hfe := fst_erase E j
    have hel : (E.eraseIdx j).length + 1 = E.length := by
      have := (List.getElem?_eq_some_iff.1 l3).1
      rw [List.length_eraseIdx, if_pos this]; omega
    obtain ⟨pn, pt, ph⟩ := p
    dsimp only at *
    clear l1 l2 h1 hD
    cases d0 : decide (ph - 1 = 0)
    · rw [if_pos (by have := of_decide_eq_false d0; omega)] at hE
      subst hE
      refine ag_enter (1 + E.length) tok Try.func19 Try.ntmps19 Try.results19 rfl (by kernel_rfl) rfl fun F => ?_
      repeat (first | refine gG ?_)
      refine lo_asp (j + 1) (zLki 3 57 l5 ⟨_, _, rfl, ?_⟩)
      repeat (first | refine gG ?_)
      refine lo_asp (j + 1) (zLki 3 57 l5 ⟨_, _, rfl, ?_⟩)
      repeat (first | refine gG ?_)
      refine lo_load_box1 tok rfl hbx rfl rfl rfl ?_
      repeat (first | refine gG ?_)
      refine lo_sub rfl rfl (r := ph - 1) (by show IntKind.wrap .i64 (ph - 1) = ph - 1; exact IntWalk.i64_in _ (by omega)) ?_
      repeat (first | refine gG ?_)
      refine lo_store tok rfl hbx rfl rfl rfl rfl rfl ?_
      repeat (first | refine gO ?_)
      refine x_eq (hp' := rfP br (E.set j (⟨pn, pt, ph - 1⟩, bj))) hset ?_
      repeat (first | refine gG ?_)
      refine lo_asp (j + 1) (zLki 3 57 hlk2 ⟨_, _, rfl, ?_⟩)
      repeat (first | refine gG ?_)
      refine lo_load_box1 tok rfl hbx2 rfl rfl rfl ?_
      repeat (first | refine gG ?_)
      refine zGS (hq := rfP br (E.set j (⟨pn, pt, ph - 1⟩, bj))) (List.take_of_length_le (by simp; omega)) ?_
      exact ⟨_, hfs, rfl, rfl⟩
    · rw [if_neg (by have := of_decide_eq_true d0; omega)] at hE
      subst hE
      refine ag_enter (1 + (E.eraseIdx j).length) tok Try.func19 Try.ntmps19 Try.results19 rfl (by kernel_rfl) rfl fun F => ?_
      repeat (first | refine gG ?_)
      refine lo_asp (j + 1) (zLki 3 57 l5 ⟨_, _, rfl, ?_⟩)
      repeat (first | refine gG ?_)
      refine lo_asp (j + 1) (zLki 3 57 l5 ⟨_, _, rfl, ?_⟩)
      repeat (first | refine gG ?_)
      refine lo_load_box1 tok rfl hbx rfl rfl rfl ?_
      repeat (first | refine gG ?_)
      refine lo_sub rfl rfl (r := ph - 1) (by show IntKind.wrap .i64 (ph - 1) = ph - 1; exact IntWalk.i64_in _ (by omega)) ?_
      repeat (first | refine gG ?_)
      refine lo_store tok rfl hbx rfl rfl rfl rfl rfl ?_
      repeat (first | refine gO ?_)
      refine x_eq (hp' := rfP br (E.set j (⟨pn, pt, ph - 1⟩, bj))) hset ?_
      repeat (first | refine gG ?_)
      refine lo_asp (j + 1) (zLki 3 57 hlk2 ⟨_, _, rfl, ?_⟩)
      repeat (first | refine gG ?_)
      refine lo_load_box1 tok rfl hbx2 rfl rfl rfl ?_
      repeat (first | refine gO ?_ | refine ac_seq ?_ | refine ac_block ?_ | refine zT ?_ | refine ac_skip ?_ | refine ac_region ?_)
      refine zDeliS 3 57 hdel ?_
      repeat (first | refine gO ?_)
      refine x_perm (hp' := rfM br (E.eraseIdx j) :: ((E.eraseIdx j).map hbB ++ [hbB (⟨pn, pt, ph - 1⟩, bj)])) (hout.cons _) ?_
      repeat (first | refine gG ?_)
      refine zGS (hq := rfP br (E.eraseIdx j)) (take_all _ _ _ (by simp)) ?_
      exact ⟨_, hfe, rfl, rfl⟩
set_option maxRecDepth 100000 in
set_option maxHeartbeats 4000000 in
theorem rsize_ag (br : Nat) (E : List PcB) (hD : POk (E.map Prod.fst)) : AG Try.prog 29 [.own 0 (.map (some br))] (rfP br E) (fun r hs => r = .tup [.c (.lit (.int .i64 E.length)), .c (.lit (.int .i64 (bytesS (E.map Prod.fst))))] ∧ hs = rfP br E) := by
  have hal : (assoc pcN ptrV E).length = E.length := assoc_len _ _ _
  have hln := hD.ln
  have hlm : (E.map Prod.fst).length = E.length := List.length_map _
  refine ag_enter (1 + E.length) tok Try.func29 Try.ntmps29 Try.results29 rfl (by kernel_rfl) rfl fun F => ?_
  repeat (first | refine gG ?_ | refine zN1 (fun hlen => ?_) | refine zN2 (fun hlen => ?_))
  refine zRgS 3 57 (fun b' st c hsl => ?_)
  repeat (first | refine gO ?_)
  refine x_perm (hp' := .mpx br (mkeys (Value.int .i64) (assoc pcN ptrV E)) (some (st, c)) :: .it b' br st c [] :: E.map hbB) (perm_last _ _ _).symm ?_
  refine x_reptr 8 1 rfl ?_
  repeat (first | refine ac_seq ?_ | refine ac_block ?_)
  refine x_loop [4, 6, 9, 10, 11, 12, 13, 14, 15, 16, 17, 18, 19] (fun P : List Nat => [(4, .c (.lit (.int .i64 (sumAt (E.map Prod.fst) P))))]) (fun P => .mpx br (mkeys (Value.int .i64) (assoc pcN ptrV E)) (some (st, c)) :: .it b' br st c P :: E.map hbB) (WalkP E.length) (fun P => E.length - P.length) [] ⟨List.nodup_nil, fun _ h => by simp at h⟩ ⟨rfl, trivial⟩ rfl ?_
  intro P hP
  have hle := sumAt_le hD P
  have hpl := walk_len hP.nd hP.lt
  repeat (first | refine gG ?_ | refine zN1 (fun hlen => ?_) | refine zN2 (fun hlen => ?_))
  refine lo_next (j := 0) rfl rfl rfl (fun hd => ?_) (fun kk u t he hn => ?_)
  · have hall := sumAt_all (D := E.map Prod.fst) hP.nd (by rw [hlm]; exact hP.lt) fun k hk => hd k (by rw [entLen, ← hlm]; exact hk)
    clear hd hP
    repeat (first | refine gO ?_ | refine ac_seq ?_ | refine ac_block ?_ | refine zF ?_ | refine ac_exit ?_)
    refine x_over ?_
    repeat (first | refine gG ?_ | refine zN1 (fun hlen => ?_) | refine zN2 (fun hlen => ?_))
    refine zMl (kT := 3) (eT := 57) ?_
    repeat (first | refine gG ?_ | refine zN1 (fun hlen => ?_) | refine zN2 (fun hlen => ?_))
    refine zGS (hq := rfP br E) (List.take_of_length_le (by simp; omega)) ?_
    exact ⟨by rw [hall, hal]; rfl, rfl⟩
  · obtain ⟨e, hEk, rfl, rfl⟩ := entE he
    have hkk : kk < E.length := (List.getElem?_eq_some_iff.1 hEk).1
    obtain ⟨⟨pn, pt, ph⟩, bk⟩ := e
    have hp : (E.map Prod.fst)[kk]? = some ⟨pn, pt, ph⟩ := by rw [getE, hEk]; rfl
    have hsn := sumAt_snoc (E.map Prod.fst) P hp
    have ht := hD.ts _ (List.mem_of_getElem? hp)
    have hw := walk_snoc hP.nd hP.lt hkk hn
    have hwl := walk_len hw.1 hw.2
    rw [List.length_append] at hwl
    simp only [List.length_cons, List.length_nil] at hwl
    dsimp only at hsn ht
    have hbr := box_row (.mpx br (mkeys (Value.int .i64) (assoc pcN ptrV E)) (some (st, c))) (.it b' br st c (P ++ [kk])) hEk []
    rw [List.append_nil] at hbr
    clear hP hp hn
    repeat (first | refine gO ?_ | refine ac_seq ?_ | refine ac_block ?_ | refine zT ?_ | refine ac_skip ?_ | refine ac_region ?_)
    refine zEn 0 he ?_
    repeat (first | refine gO ?_)
    refine x_as 6 (.ptr (kk + 2) bk 0) (fun M u h => re_lp M u h) ?_
    repeat (first | refine gG ?_ | refine zN1 (fun hlen => ?_) | refine zN2 (fun hlen => ?_))
    refine lo_load_box1 tok rfl hbr rfl rfl rfl ?_
    repeat (first | refine gG ?_ | refine zN1 (fun hlen => ?_) | refine zN2 (fun hlen => ?_))
    refine lo_add rfl rfl (r := ((sumAt (E.map Prod.fst) P + pt.size : Nat) : Int)) (by show IntKind.wrap .i64 ((sumAt (E.map Prod.fst) P : Int) + (pt.size : Int)) = _; rw [IntWalk.i64_in _ (by omega)]; omega) ?_
    repeat (first | refine gG ?_ | refine zN1 (fun hlen => ?_) | refine zN2 (fun hlen => ?_))
    exact ⟨P ++ [kk], ⟨hw.1, hw.2⟩, by simp only [List.length_append, List.length_cons, List.length_nil]; omega, x_wk ⟨by rw [hsn]; rfl, trivial⟩ rfl (by repeat (first | exact ag_refl | refine ag_upd rfl ?_ | refine ag_at rfl rfl ?_))⟩
end Go.Proofs.Ytdogdjcjmhogmaa
namespace Go.Proofs.Ytdogdjcjmhogmaa
open Go.RowKit
def RLoadR (br : Nat) (E : List PcB) (q : List UInt8 × Int) (r : AV) (hs : List Blk) : Prop := r = .tup [.c (bytRow q.1), .c (.lit (.int .i64 q.2))] ∧ hs = rfP br E
set_option maxRecDepth 100000 in
set_option maxHeartbeats 4000000 in
theorem rload_ag (br : Nat) (E : List PcB) (hD : POk (E.map Prod.fst)) (l : List Int) (hl : l.length ≤ 1048576) : AG Try.prog 23 [.own 0 (.map (some br)), .c (intRow l)] (rfP br E) (RLoadR br E (loadS (E.map Prod.fst) l [])) := by
  refine AG.re (R := fun r hs => ((loadS (E.map Prod.fst) l []).2 = 0 ∧ r = .tup [.c (bytRow (loadS (E.map Prod.fst) l []).1), .c (.lit (.int .i64 0))] ∨ loadS (E.map Prod.fst) l [] = ([], 4) ∧ r = .tup [.c (.lit (.slice none 0 0)), .c (.lit (.int .i64 4))]) ∧ hs = rfP br E) ?_ ?_
  rotate_left
  · rintro r hs ⟨⟨h0, rfl⟩ | ⟨h0, rfl⟩, rfl⟩
    · exact ⟨_, re_refl, by rw [← h0], rfl⟩
    · exact ⟨_, re_tup2 (nil_row (sz := 1) (by omega)), by rw [h0]; rfl, rfl⟩
  refine ag_enter (1 + E.length) tok Try.func23 Try.ntmps23 Try.results23 rfl (by kernel_rfl) rfl fun F => ?_
  repeat (first | refine gG ?_ | refine zN1 (fun hlen => ?_) | refine zN2 (fun hlen => ?_))
  refine x_loop [4, 5, 6, 8, 11, 12, 13, 14, 15, 16, 17, 18, 19, 20, 21, 22, 23, 24, 25, 26, 27] (fun y : Nat × List UInt8 => [(11, .c (.lit (.int .i64 (y.1 : Nat)))), (6, .c (.lit (.string (bs y.2))))]) (fun _ => rfP br E) (fun y => y.1 ≤ l.length ∧ loadS (E.map Prod.fst) l [] = loadS (E.map Prod.fst) (l.drop y.1) y.2 ∧ y.2.length ≤ 32 * y.1) (fun y => l.length - y.1) (0, []) ⟨Nat.zero_le _, rfl, by simp⟩ ⟨rfl, rfl, trivial⟩ rfl ?_
  rintro ⟨k, out⟩ ⟨hk, hE, hO⟩
  dsimp only at hk hE hO ⊢
  repeat (first | refine gG ?_ | refine zN1 (fun hlen => ?_) | refine zN2 (fun hlen => ?_))
  refine x_cond rfl (fun h => ?_) (fun h => ?_)
  · have hk' : k < l.length := by simpa using h
    obtain ⟨a, ha⟩ := nthC hk'
    have hat := int_at ha
    have hdr : l.drop k = a :: l.drop (k + 1) := by
      obtain ⟨h1, rfl⟩ := List.getElem?_eq_some_iff.1 ha
      exact List.drop_eq_getElem_cons h1
    rw [hdr, loadS] at hE
    clear h ha hdr
    rcases look_e (E := E) a with ⟨l1, l2⟩ | ⟨j, p, bj, l1, l2, l3, rfl, l5⟩
    · rw [l1] at hE
      dsimp only at hE
      clear l1 hD
      repeat (first | refine gG ?_ | refine zN1 (fun hlen => ?_) | refine zN2 (fun hlen => ?_))
      refine zIx k hk' ?_
      repeat (first | refine gG ?_ | refine zN1 (fun hlen => ?_) | refine zN2 (fun hlen => ?_))
      refine zEl1 hat ?_
      repeat (first | refine gG ?_ | refine zN1 (fun hlen => ?_) | refine zN2 (fun hlen => ?_))
      refine zLki 3 57 l2 ?_
      repeat (first | refine gG ?_ | refine zN1 (fun hlen => ?_) | refine zN2 (fun hlen => ?_))
      refine zGS (hq := rfP br E) (List.take_of_length_le (by simp; omega)) ?_
      exact ⟨.inr ⟨hE, rfl⟩, rfl⟩
    · rw [l2] at hE
      dsimp only at hE
      have h1 : (E.map Prod.fst)[j]? = some p := by rw [getE, l3]; rfl
      have ht := hD.ts p (List.mem_of_getElem? h1)
      have hbx := box_at (rfM br E) l3
      obtain ⟨pn, pt, ph⟩ := p
      obtain ⟨pl, rfl⟩ : ∃ pl, pt = bs pl := ⟨pt.data.toList, (bs_self pt).symm⟩
      dsimp only at ht hE hat l5
      rw [bs_size'] at ht
      clear l1 l2 h1 hD
      repeat (first | refine gG ?_ | refine zN1 (fun hlen => ?_) | refine zN2 (fun hlen => ?_))
      refine zIx k hk' ?_
      repeat (first | refine gG ?_ | refine zN1 (fun hlen => ?_) | refine zN2 (fun hlen => ?_))
      refine zEl1 hat ?_
      repeat (first | refine gG ?_ | refine zN1 (fun hlen => ?_) | refine zN2 (fun hlen => ?_))
      refine lo_asp (j + 1) (zLki 3 57 l5 ⟨_, _, rfl, ?_⟩)
      repeat (first | refine gG ?_ | refine zN1 (fun hlen => ?_) | refine zN2 (fun hlen => ?_))
      refine lo_asp (j + 1) (zLki 3 57 l5 ⟨_, _, rfl, ?_⟩)
      repeat (first | refine gG ?_ | refine zN1 (fun hlen => ?_) | refine zN2 (fun hlen => ?_))
      refine lo_load_box1 tok rfl hbx rfl rfl rfl ?_
      repeat (first | refine gG ?_ | refine zN1 (fun hlen => ?_) | refine zN2 (fun hlen => ?_))
      refine zCatb out pl (by omega) ?_
      repeat (first | refine gG ?_ | refine zN1 (fun hlen => ?_) | refine zN2 (fun hlen => ?_))
      exact ⟨(k + 1, out ++ pl), ⟨hk', hE, by simp only [List.length_append]; omega⟩, by simp only; omega, x_wk ⟨rfl, rfl, trivial⟩ rfl (by repeat (first | exact ag_refl | refine ag_upd rfl ?_ | refine ag_at rfl rfl ?_))⟩
  · have hk' : k = l.length := by have : ¬ k < l.length := by simpa using h
                                  omega
    subst hk'
    rw [List.drop_length, loadS] at hE
    clear h
    repeat (first | refine gG ?_ | refine zN1 (fun hlen => ?_) | refine zN2 (fun hlen => ?_))
    refine zByt (show (bs out).size ≤ maxLen by rw [bs_size']; unfold maxLen; omega) ?_
    repeat (first | refine gG ?_ | refine zN1 (fun hlen => ?_) | refine zN2 (fun hlen => ?_))
    refine zGS (hq := rfP br E) (List.take_of_length_le (by simp; omega)) ?_
    rw [hE]
    exact ⟨.inl ⟨rfl, rfl⟩, rfl⟩
def cntTo (n : Int) (l : List Int) (k : Nat) : Nat := cnt n (l.take k)
set_option maxRecDepth 100000 in
set_option maxHeartbeats 8000000 in
theorem rfree_ag (br : Nat) (E : List PcB) (hD : POk (E.map Prod.fst)) (l : List Int) (hl : l.length ≤ 1048576) : AG Try.prog 26 [.own 0 (.map (some br)), .c (intRow l)] (rfP br E) (fun r hs => ∃ E' : List PcB, E'.map Prod.fst = (freeS l (E.map Prod.fst)).2 ∧ r = .c (.lit (.int .i64 (freeS l (E.map Prod.fst)).1)) ∧ hs = rfP br E') := by
  have hE := freeS.eq_1 l (E.map Prod.fst)
  generalize freeS l (E.map Prod.fst) = Q at *
  have hln := hD.ln
  rw [List.length_map] at hln
  refine ag_enter (600) tok Try.func26 Try.ntmps26 Try.results26 rfl (by kernel_rfl) rfl fun F => ?_
  repeat (first | refine gG ?_ | refine zN1 (fun hlen => ?_) | refine zN2 (fun hlen => ?_))
  refine x_loop [4, 6, 7, 9, 14, 15, 16, 17, 18, 19, 20, 21, 22, 23, 24, 25, 26, 27, 28, 29, 30, 31, 32, 33, 34, 35, 36, 37, 38, 39, 40, 41, 42, 43, 44] (fun k : Nat => [(14, .c (.lit (.int .i64 (k : Nat))))]) (fun _ => rfP br E) (fun k => k ≤ l.length ∧ ∀ n ∈ l.take k, (cnt n l : Int) ≤ holdN (E.map Prod.fst) n) (fun k => l.length - k) 0 ⟨Nat.zero_le _, fun _ h => by simp at h⟩ ⟨rfl, trivial⟩ rfl ?_
  rintro k ⟨hk, hF⟩
  repeat (first | refine gG ?_ | refine zN1 (fun hlen => ?_) | refine zN2 (fun hlen => ?_))
  refine x_cond rfl (fun h => ?_) (fun h => ?_)
  · have hk' : k < l.length := by simpa using h
    obtain ⟨a, ha⟩ := nthC hk'
    have hat := int_at ha
    have hal := List.mem_of_getElem? ha
    have hyes : (cnt a l : Int) ≤ holdN (E.map Prod.fst) a → ∀ n ∈ l.take (k + 1), (cnt n l : Int) ≤ holdN (E.map Prod.fst) n := by
      intro h n hn
      rw [take_snocI ha] at hn
      rcases List.mem_append.1 hn with hn | hn
      · exact hF n hn
      · rw [List.mem_singleton.1 hn]; exact h
    have hno := fun h => free_not (D := E.map Prod.fst) hal h
    have hpos := cnt_pos hal
    have hcl : cnt a l ≤ l.length := List.countP_le_length
    have hH : holdN (E.map Prod.fst) a = match getS a (E.map Prod.fst) with | some p => p.h | none => 0 := rfl
    clear h hF
    repeat (first | refine gG ?_ | refine zN1 (fun hlen => ?_) | refine zN2 (fun hlen => ?_))
    refine zIx k hk' ?_
    repeat (first | refine gG ?_ | refine zN1 (fun hlen => ?_) | refine zN2 (fun hlen => ?_))
    refine zEl1 hat ?_
    repeat (first | refine gG ?_ | refine zN1 (fun hlen => ?_) | refine zN2 (fun hlen => ?_))
    refine x_loop [7, 9, 20, 21, 22, 23, 24, 25, 26, 27, 28, 29] (fun j : Nat => [(20, .c (.lit (.int .i64 (j : Nat)))), (7, .c (.lit (.int .i64 (cntTo a l j : Nat))))]) (fun _ => rfP br E) (fun j => j ≤ l.length) (fun j => l.length - j) 0 (Nat.zero_le _) ⟨rfl, rfl, trivial⟩ rfl ?_
    intro j hj
    repeat (first | refine gG ?_ | refine zN1 (fun hlen => ?_) | refine zN2 (fun hlen => ?_))
    refine x_cond rfl (fun h => ?_) (fun h => ?_)
    · have hj' : j < l.length := by simpa using h
      obtain ⟨x, hx⟩ := nthC hj'
      have hxt := int_at hx
      have hsn : cntTo a l (j + 1) = cntTo a l j + if x = a then 1 else 0 := by
        unfold cntTo
        rw [take_snocI hx, cnt_snoc]
      have hcb : cntTo a l j ≤ l.length := Nat.le_trans (cnt_le a l j) hcl
      clear h hx
      cases d0 : decide (x = a)
      · rw [if_neg (of_decide_eq_false d0), Nat.add_zero] at hsn
        repeat (first | refine gG ?_ | refine zN1 (fun hlen => ?_) | refine zN2 (fun hlen => ?_))
        refine zIx j hj' ?_
        repeat (first | refine gG ?_ | refine zN1 (fun hlen => ?_) | refine zN2 (fun hlen => ?_))
        refine zEl1 hxt ?_
        repeat (first | refine gG ?_ | refine zN1 (fun hlen => ?_) | refine zN2 (fun hlen => ?_))
        exact ⟨j + 1, hj', by omega, x_wk ⟨rfl, by rw [hsn]; rfl, trivial⟩ rfl (by repeat (first | exact ag_refl | refine ag_upd rfl ?_ | refine ag_at rfl rfl ?_))⟩
      · rw [if_pos (of_decide_eq_true d0)] at hsn
        repeat (first | refine gG ?_ | refine zN1 (fun hlen => ?_) | refine zN2 (fun hlen => ?_))
        refine zIx j hj' ?_
        repeat (first | refine gG ?_ | refine zN1 (fun hlen => ?_) | refine zN2 (fun hlen => ?_))
        refine zEl1 hxt ?_
        repeat (first | refine gG ?_ | refine zN1 (fun hlen => ?_) | refine zN2 (fun hlen => ?_))
        exact ⟨j + 1, hj', by omega, x_wk ⟨rfl, by rw [hsn]; rfl, trivial⟩ rfl (by repeat (first | exact ag_refl | refine ag_upd rfl ?_ | refine ag_at rfl rfl ?_))⟩
    · have hj' : j = l.length := by have : ¬ j < l.length := by simpa using h
                                    omega
      subst hj'
      have hct : cntTo a l l.length = cnt a l := by unfold cntTo; rw [List.take_length]
      rw [hct]
      clear h
      rcases look_e (E := E) a with ⟨l1, l2⟩ | ⟨q, p, bj, l1, l2, l3, rfl, l5⟩
      · rw [l1] at hH
        dsimp only at hH
        replace hno := hno (by rw [hH]; omega)
        rw [hno, if_neg (by simp)] at hE
        subst hE
        clear l1 hD
        repeat (first | refine gG ?_ | refine zN1 (fun hlen => ?_) | refine zN2 (fun hlen => ?_))
        refine zLki 3 57 l2 ?_
        repeat (first | refine gG ?_ | refine zN1 (fun hlen => ?_) | refine zN2 (fun hlen => ?_))
        refine zGS (hq := rfP br E) (List.take_of_length_le (by simp; omega)) ?_
        exact ⟨E, rfl, rfl, rfl⟩
      · rw [l2] at hH
        dsimp only at hH
        have hbx := box_at (rfM br E) l3
        obtain ⟨pn, pt, ph⟩ := p
        dsimp only at *
        clear l1 l2 hD
        cases d0 : decide (ph < ((cnt pn l : Nat) : Int))
        · replace hyes := hyes (by rw [hH]; have := of_decide_eq_false d0; omega)
          clear hno
          repeat (first | refine gG ?_ | refine zN1 (fun hlen => ?_) | refine zN2 (fun hlen => ?_))
          refine lo_asp (q + 1) (zLki 3 57 l5 ⟨_, _, rfl, ?_⟩)
          repeat (first | refine gG ?_ | refine zN1 (fun hlen => ?_) | refine zN2 (fun hlen => ?_))
          refine lo_asp (q + 1) (zLki 3 57 l5 ⟨_, _, rfl, ?_⟩)
          repeat (first | refine gG ?_ | refine zN1 (fun hlen => ?_) | refine zN2 (fun hlen => ?_))
          refine lo_load_box1 tok rfl hbx rfl rfl rfl ?_
          repeat (first | refine gG ?_ | refine zN1 (fun hlen => ?_) | refine zN2 (fun hlen => ?_))
          exact ⟨k + 1, ⟨hk', hyes⟩, by omega, x_wk ⟨rfl, trivial⟩ rfl (by repeat (first | exact ag_refl | refine ag_upd rfl ?_ | refine ag_at rfl rfl ?_))⟩
        · replace hno := hno (by rw [hH]; exact of_decide_eq_true d0)
          rw [hno, if_neg (by simp)] at hE
          subst hE
          clear hyes
          repeat (first | refine gG ?_ | refine zN1 (fun hlen => ?_) | refine zN2 (fun hlen => ?_))
          refine lo_asp (q + 1) (zLki 3 57 l5 ⟨_, _, rfl, ?_⟩)
          repeat (first | refine gG ?_ | refine zN1 (fun hlen => ?_) | refine zN2 (fun hlen => ?_))
          refine lo_asp (q + 1) (zLki 3 57 l5 ⟨_, _, rfl, ?_⟩)
          repeat (first | refine gG ?_ | refine zN1 (fun hlen => ?_) | refine zN2 (fun hlen => ?_))
          refine lo_load_box1 tok rfl hbx rfl rfl rfl ?_
          repeat (first | refine gG ?_ | refine zN1 (fun hlen => ?_) | refine zN2 (fun hlen => ?_))
          refine zGS (hq := rfP br E) (List.take_of_length_le (by simp; omega)) ?_
          exact ⟨E, rfl, rfl, rfl⟩
  · have hk' : k = l.length := by have : ¬ k < l.length := by simpa using h
                                  omega
    subst hk'
    rw [List.take_length] at hF
    rw [free_of hF, if_pos rfl] at hE
    subst hE
    clear hF h hk
    repeat (first | refine gG ?_ | refine zN1 (fun hlen => ?_) | refine zN2 (fun hlen => ?_))
    refine x_loop [11, 47, 48, 49, 50, 51, 52, 53, 54] (fun y : Nat × List PcB => [(47, .c (.lit (.int .i64 (y.1 : Nat))))]) (fun y => rfP br y.2) (fun y => y.1 ≤ l.length ∧ y.2.map Prod.fst = dropAll (l.take y.1) (E.map Prod.fst)) (fun y => l.length - y.1) (0, E) ⟨Nat.zero_le _, rfl⟩ ⟨rfl, trivial⟩ rfl ?_
    rintro ⟨k, E'⟩ ⟨hk, hE'⟩
    dsimp only at hk hE' ⊢
    have hpk : POk (E'.map Prod.fst) := by rw [hE']; exact pok_all hD
    repeat (first | refine gG ?_ | refine zN1 (fun hlen => ?_) | refine zN2 (fun hlen => ?_))
    refine x_cond rfl (fun h => ?_) (fun h => ?_)
    · have hk' : k < l.length := by simpa using h
      obtain ⟨a, ha⟩ := nthC hk'
      have hat := int_at ha
      have hd := rdrop_ag br E' hpk a
      have hsn := dropAll_snoc (l.take k) a (E.map Prod.fst)
      rw [← take_snocI ha, ← hE'] at hsn
      rw [← hsn] at hd
      clear h ha hsn hD
      repeat (first | refine gG ?_ | refine zN1 (fun hlen => ?_) | refine zN2 (fun hlen => ?_))
      refine zIx k hk' ?_
      repeat (first | refine gG ?_ | refine zN1 (fun hlen => ?_) | refine zN2 (fun hlen => ?_))
      refine zEl1 hat ?_
      repeat (first | refine gG ?_ | refine zN1 (fun hlen => ?_) | refine zN2 (fun hlen => ?_))
      refine zCallAll hd (List.Perm.refl _) ?_
      rintro _ _ ⟨E2, hE2, rfl, rfl⟩
      refine ⟨_, re_refl, ?_⟩
      repeat (first | refine gG ?_ | refine zN1 (fun hlen => ?_) | refine zN2 (fun hlen => ?_))
      exact ⟨(k + 1, E2), ⟨hk', hE2⟩, by simp only; omega, x_wk ⟨rfl, trivial⟩ rfl (by repeat (first | exact ag_refl | refine ag_upd rfl ?_ | refine ag_at rfl rfl ?_))⟩
    · have hk' : k = l.length := by have : ¬ k < l.length := by simpa using h
                                    omega
      subst hk'
      rw [List.take_length] at hE'
      have hln2 := hpk.ln
      rw [List.length_map] at hln2
      clear h
      repeat (first | refine gG ?_ | refine zN1 (fun hlen => ?_) | refine zN2 (fun hlen => ?_))
      refine zGS (hq := rfP br E') (List.take_of_length_le (by simp; omega)) ?_
      exact ⟨E', hE', rfl, rfl⟩
def RKeepR (br : Nat) (q : (List Int × Int) × List Pc) (r : AV) (hs : List Blk) : Prop := ∃ E' : List PcB, E'.map Prod.fst = q.2 ∧ r = .tup [.c (intRow q.1.1), .c (.lit (.int .i64 q.1.2))] ∧ hs = rfP br E'
theorem perm_in {α : Type} (a x : α) (l : List α) : ((a :: l) ++ [x]).Perm (a :: x :: l) := (perm_last a x l).symm
set_option maxRecDepth 100000 in
set_option maxHeartbeats 8000000 in
theorem rkeep_ag (br : Nat) (E : List PcB) (hD : POk (E.map Prod.fst)) (d : List UInt8) (hd : d.length ≤ 1048576) : AG Try.prog 21 [.own 0 (.map (some br)), .c (bytRow d)] (rfP br E) (RKeepR br (keepS ((cutL d).map bs) [] (E.map Prod.fst))) := by
  have hC := cuts_af d hd
  have hcl := cutL_len d.length d (Nat.le_refl _)
  have hpc : ∀ p ∈ cutL d, p.length ≤ 1048576 := by
    have key : ∀ (n : Nat) (d : List UInt8), d.length ≤ n → ∀ p ∈ cutL d, p.length ≤ d.length := by
      intro n
      induction n with
      | zero =>
        intro d h p hp
        have : d = [] := List.eq_nil_of_length_eq_zero (by omega)
        subst this; simp [cutL_nil] at hp
      | succ n ih =>
        intro d h p hp
        rcases Nat.eq_zero_or_pos d.length with h0 | h0
        · have : d = [] := List.eq_nil_of_length_eq_zero h0
          subst this; simp [cutL_nil] at hp
        · rw [cutL_step h0] at hp
          rcases List.mem_cons.1 hp with rfl | hp
          · rw [List.length_take]; omega
          · have := cl_pos (f := 32) (l := d) (by omega) h0
            have := ih (d.drop (cl 32 d)) (by rw [List.length_drop]; omega) p hp
            rw [List.length_drop] at this
            omega
    intro p hp
    have := key d.length d (Nat.le_refl _) p hp
    omega
  generalize cutL d = L at *
  have hpok : POk (keepS (L.map bs) [] (E.map Prod.fst)).2 := pok_keep hD
  generalize hQ : keepS (L.map bs) [] (E.map Prod.fst) = Q at *
  refine AG.re (R := fun r hs => ∃ E' : List PcB, E'.map Prod.fst = Q.2 ∧ (Q.1.2 = 0 ∧ r = .tup [.c (intRow Q.1.1), .c (.lit (.int .i64 0))] ∨ Q.1.1 = [] ∧ r = .tup [.c (.lit (.slice none 0 0)), .c (.lit (.int .i64 Q.1.2))]) ∧ hs = rfP br E') ?_ ?_
  rotate_left
  · rintro r hs ⟨E', h1, ⟨h0, rfl⟩ | ⟨h0, rfl⟩, rfl⟩
    · exact ⟨_, re_refl, E', h1, by rw [h0], rfl⟩
    · exact ⟨_, re_tup2 (nil_row (sz := 1) (by omega)), E', h1, by rw [h0]; rfl, rfl⟩
  have hln := hpok.ln
  refine ag_enter (1 + Q.2.length) tok Try.func21 Try.ntmps21 Try.results21 rfl (by kernel_rfl) rfl fun F => ?_
  repeat (first | refine gG ?_ | refine zN1 (fun hlen => ?_) | refine zN2 (fun hlen => ?_) | refine zAp (fun _ => ?_))
  refine zCall (hC) ?_
  rintro _ rfl
  repeat (first | refine gG ?_ | refine zN1 (fun hlen => ?_) | refine zN2 (fun hlen => ?_) | refine zAp (fun _ => ?_))
  refine x_ownP 6 3 1 1 (perm_in _ _ _) ?_
  refine x_loop [4, 5, 6, 8, 9, 10, 12, 16, 17, 18, 19, 20, 21, 22, 23, 24, 25, 26, 27, 28, 29, 30, 31, 32, 33, 34, 35, 36, 37, 38, 39, 40, 41, 42, 43, 44] (fun y : Nat × List Int × Value × List PcB => [(16, .c (.lit (.int .i64 (y.1 : Nat)))), (6, .own 1 y.2.2.1)]) (fun y => rfM br y.2.2.2 :: .row y.2.2.1 3 1 y.2.1.length (y.2.1.flatMap intTs) :: y.2.2.2.map hbB) (fun y => y.1 ≤ L.length ∧ keepS ((L.drop y.1).map bs) y.2.1 (y.2.2.2.map Prod.fst) = Q ∧ POk (y.2.2.2.map Prod.fst) ∧ y.2.1.length ≤ y.1) (fun y => L.length - y.1) (0, [], .slice none 0 0, E) ⟨Nat.zero_le _, hQ, hD, by simp⟩ ⟨rfl, rfl, trivial⟩ rfl ?_
  clear hQ hD hC
  rintro ⟨k, out, v, E⟩ ⟨hk, hE, hD, hO⟩
  dsimp only at hk hE hD hO ⊢
  repeat (first | refine gG ?_ | refine zN1 (fun hlen => ?_) | refine zN2 (fun hlen => ?_) | refine zAp (fun _ => ?_))
  refine x_cond rfl (fun h => ?_) (fun h => ?_)
  · have hk' : k < L.length := by simpa using h
    obtain ⟨p, hp⟩ := nthC hk'
    have hat := strsB_at hp
    have hps := hpc p (List.mem_of_getElem? hp)
    have hdr : L.drop k = p :: L.drop (k + 1) := by
      obtain ⟨h1, rfl⟩ := List.getElem?_eq_some_iff.1 hp
      exact List.drop_eq_getElem_cons h1
    rw [hdr, List.map_cons] at hE
    have hP : AG Try.prog 17 [.own 0 (.map (some br)), .c (bytRow p)] (rfP br E) (RTells (putS (bs p) (E.map Prod.fst)).1.1 (putS (bs p) (E.map Prod.fst)).1.2 br (putS (bs p) (E.map Prod.fst)).2) := rput_ag br E hD p
    have hpD := pok_put hD (bs p)
    have her := fun h => keep_err (r := (L.drop (k + 1)).map bs) (out := out) (D := E.map Prod.fst) (b := bs p) h
    have hok := fun h => keep_ok (r := (L.drop (k + 1)).map bs) (out := out) (D := E.map Prod.fst) (b := bs p) h
    generalize putS (bs p) (E.map Prod.fst) = q at *
    obtain ⟨⟨qn, qe⟩, D'⟩ := q
    dsimp only at hP hpD her hok
    have hbz : (bs p).size ≤ maxLen := by rw [bs_size']; unfold maxLen; omega
    clear h hp hdr hD hpc
    cases d0 : decide (qe = 0)
    · have hne := of_decide_eq_false d0
      have d1 : (!decide (qe = 0)) = true := by rw [d0]; rfl
      rw [her hne] at hE
      subst hE
      dsimp only at hpok hln ⊢
      clear her hok
      repeat (first | refine gG ?_ | refine zN1 (fun hlen => ?_) | refine zN2 (fun hlen => ?_) | refine zAp (fun _ => ?_))
      refine zIx k hk' ?_
      repeat (first | refine gG ?_ | refine zN1 (fun hlen => ?_) | refine zN2 (fun hlen => ?_) | refine zAp (fun _ => ?_))
      refine zEl1 hat ?_
      repeat (first | refine gG ?_ | refine zN1 (fun hlen => ?_) | refine zN2 (fun hlen => ?_) | refine zAp (fun _ => ?_))
      refine zByt hbz ?_
      repeat (first | refine gG ?_ | refine zN1 (fun hlen => ?_) | refine zN2 (fun hlen => ?_) | refine zAp (fun _ => ?_))
      refine lo_frame (rfP br E) [.row v 3 1 out.length (out.flatMap intTs)] (perm_last _ _ _) (fun F' => ?_)
      refine zCallAll hP (List.Perm.refl _) ?_
      rintro _ _ ⟨E1, hE1, rfl, rfl⟩
      refine ⟨.tup [.c (.lit (.int .i64 qn)), .c (.lit (.int .i64 qe))], re_refl, ?_⟩
      refine al_wk (wk_perm (perm_in _ _ _)) ?_
      clear hP
      repeat (first | refine gG ?_ | refine zN1 (fun hlen => ?_) | refine zN2 (fun hlen => ?_) | refine zAp (fun _ => ?_))
      refine x_loop [12, 31, 32, 33, 34, 35, 36, 37, 38] (fun y : Nat × List PcB => [(31, .c (.lit (.int .i64 (y.1 : Nat))))]) (fun y => rfM br y.2 :: .row v 3 1 out.length (out.flatMap intTs) :: y.2.map hbB) (fun y => y.1 ≤ out.length ∧ y.2.map Prod.fst = dropAll (out.take y.1) D') (fun y => out.length - y.1) (0, E1) ⟨Nat.zero_le _, hE1⟩ ⟨rfl, trivial⟩ rfl ?_
      rintro ⟨j, E2⟩ ⟨hj, hE2⟩
      dsimp only at hj hE2 ⊢
      have hpk : POk (E2.map Prod.fst) := by rw [hE2]; exact pok_all hpD
      repeat (first | refine gG ?_ | refine zN1 (fun hlen => ?_) | refine zN2 (fun hlen => ?_) | refine zAp (fun _ => ?_))
      refine x_cond rfl (fun h => ?_) (fun h => ?_)
      · have hj' : j < out.length := by simpa using h
        obtain ⟨a, ha⟩ := nthC hj'
        have hat2 := int_at ha
        have hd := rdrop_ag br E2 hpk a
        have hsn := dropAll_snoc (out.take j) a D'
        rw [← take_snocI ha, ← hE2] at hsn
        rw [← hsn] at hd
        clear h ha hsn
        repeat (first | refine gG ?_ | refine zN1 (fun hlen => ?_) | refine zN2 (fun hlen => ?_) | refine zAp (fun _ => ?_))
        refine zIxo j hj' ?_
        repeat (first | refine gG ?_ | refine zN1 (fun hlen => ?_) | refine zN2 (fun hlen => ?_) | refine zAp (fun _ => ?_))
        refine zElo1 hat2 ?_
        repeat (first | refine gG ?_ | refine zN1 (fun hlen => ?_) | refine zN2 (fun hlen => ?_) | refine zAp (fun _ => ?_))
        refine lo_frame (rfP br E2) [.row v 3 1 out.length (out.flatMap intTs)] (perm_last _ _ _) (fun F' => ?_)
        refine zCallAll hd (List.Perm.refl _) ?_
        rintro _ _ ⟨E3, hE3, rfl, rfl⟩
        refine ⟨_, re_refl, ?_⟩
        refine al_wk (wk_perm (perm_in _ _ _)) ?_
        repeat (first | refine gG ?_ | refine zN1 (fun hlen => ?_) | refine zN2 (fun hlen => ?_) | refine zAp (fun _ => ?_))
        exact ⟨(j + 1, E3), ⟨hj', hE3⟩, by simp only; omega, x_wk ⟨rfl, trivial⟩ rfl (by repeat (first | exact ag_refl | refine ag_upd rfl ?_ | refine ag_at rfl rfl ?_))⟩
      · have hj' : j = out.length := by have : ¬ j < out.length := by simpa using h
                                        omega
        subst hj'
        rw [List.take_length] at hE2
        refine x_perm (perm_last _ _ _) ?_
        repeat (first | refine gG ?_ | refine zN1 (fun hlen => ?_) | refine zN2 (fun hlen => ?_) | refine zAp (fun _ => ?_))
        refine zGS (hq := rfP br E2) (take_all _ _ _ (by rw [List.length_map, ← hE2, List.length_map])) ?_
        exact ⟨E2, hE2, .inr ⟨rfl, rfl⟩, rfl⟩
    · have he0 := of_decide_eq_true d0
      have d1 : (!decide (qe = 0)) = false := by rw [d0]; rfl
      rw [hok he0] at hE
      have hsn := ints_snoc out qn
      clear her hok
      repeat (first | refine gG ?_ | refine zN1 (fun hlen => ?_) | refine zN2 (fun hlen => ?_) | refine zAp (fun _ => ?_))
      refine zIx k hk' ?_
      repeat (first | refine gG ?_ | refine zN1 (fun hlen => ?_) | refine zN2 (fun hlen => ?_) | refine zAp (fun _ => ?_))
      refine zEl1 hat ?_
      repeat (first | refine gG ?_ | refine zN1 (fun hlen => ?_) | refine zN2 (fun hlen => ?_) | refine zAp (fun _ => ?_))
      refine zByt hbz ?_
      repeat (first | refine gG ?_ | refine zN1 (fun hlen => ?_) | refine zN2 (fun hlen => ?_) | refine zAp (fun _ => ?_))
      refine lo_frame (rfP br E) [.row v 3 1 out.length (out.flatMap intTs)] (perm_last _ _ _) (fun F' => ?_)
      refine zCallAll hP (List.Perm.refl _) ?_
      rintro _ _ ⟨E1, hE1, rfl, rfl⟩
      refine ⟨.tup [.c (.lit (.int .i64 qn)), .c (.lit (.int .i64 qe))], re_refl, ?_⟩
      refine al_wk (wk_perm (perm_in _ _ _)) ?_
      clear hP
      repeat (first | refine gG ?_ | refine zN1 (fun hlen => ?_) | refine zN2 (fun hlen => ?_) | refine zAp (fun _ => ?_))
      refine zApS (fun v' => ?_)
      repeat (first | refine gG ?_ | refine zN1 (fun hlen => ?_) | refine zN2 (fun hlen => ?_) | refine zAp (fun _ => ?_))
      refine ⟨(k + 1, out ++ [qn], v', E1), ⟨hk', by simp only; rw [hE1]; exact hE, by simp only; rw [hE1]; exact hpD, by simp only [List.length_append, List.length_cons, List.length_nil]; omega⟩, by simp only; omega, x_wk ⟨rfl, rfl, trivial⟩ ?_ (by repeat (first | exact ag_refl | refine ag_upd rfl ?_ | refine ag_at rfl rfl ?_))⟩
      simp only [hsn, List.length_append, List.length_cons, List.length_nil]
      rfl
  · have hk' : k = L.length := by have : ¬ k < L.length := by simpa using h
                                  omega
    subst hk'
    rw [List.drop_length] at hE
    subst hE
    refine x_fzS 6 ?_ rfl rfl
    refine x_perm (hp' := rfM br E :: (E.map hbB ++ [Blk.dead])) (perm_last _ _ _) ?_
    repeat (first | refine gG ?_ | refine zN1 (fun hlen => ?_) | refine zN2 (fun hlen => ?_) | refine zAp (fun _ => ?_))
    refine zGS (hq := rfP br E) (take_all _ _ _ (by simp [keepS])) ?_
    exact ⟨E, rfl, .inl ⟨rfl, rfl⟩, rfl⟩
end Go.Proofs.Ytdogdjcjmhogmaa
namespace Go.Proofs.Ytdogdjcjmhogmaa
open Go.RowKit
structure Acq where
  kind : Int
  n : Int
  d : List UInt8
  l : List Int
def Acq.ts (a : Acq) : List T := [.lit (.int .i64 a.kind), .lit (.int .i64 a.n), bytRow a.d, intRow a.l]
theorem Acq.ts_len (a : Acq) : a.ts.length = 4 := rfl
def Acq.row (l : List Acq) : T := .row l.length 4 (l.flatMap Acq.ts)
end Go.Proofs.Ytdogdjcjmhogmaa
namespace Go.Proofs.Ytdogdjcjmhogmaa
open Go.RowKit
theorem nth {α : Type} {l : List α} {k : Nat} (h : k < l.length) : ∃ a, l[k]? = some a := ⟨_, List.getElem?_eq_getElem h⟩
theorem eqL_len {l r : List Int} (h : l.length ≠ r.length) : decide (l = r) = false := decide_eq_false fun e => h (by rw [e])
def eqAt (l r : List Int) (k : Nat) : Prop := l.take k = r.take k
set_option maxRecDepth 100000 in
set_option maxHeartbeats 1000000 in
theorem eqInt_af (l r : List Int) : AF Try.prog 14 [intRow l, intRow r] (· = .lit (.bool (decide (l = r)))) := by
  cases q1 : decide (((l.length : Nat) : Int) = ((r.length : Nat) : Int))
  · have q2 : (!decide (((l.length : Nat) : Int) = ((r.length : Nat) : Int))) = true := by rw [q1]; rfl
    have hne : l.length ≠ r.length := by have := of_decide_eq_false q1; omega
    have hf := eqL_len hne
    generalize decide (l = r) = z at *
    subst hf
    refine af_enter tok Try.func14 Try.ntmps14 Try.results14 rfl (by kernel_rfl) rfl rfl fun F hX => ?_
    repeat (first | refine gG ?_ | refine zN1 (fun hlen => ?_) | refine zN2 (fun hlen => ?_))
    first | refine zR ?_ | refine zQ ?_
    rfl
  · have q2 : (!decide (((l.length : Nat) : Int) = ((r.length : Nat) : Int))) = false := by rw [q1]; rfl
    have hlr : l.length = r.length := by have := of_decide_eq_true q1; omega
    refine af_enter tok Try.func14 Try.ntmps14 Try.results14 rfl (by kernel_rfl) rfl rfl fun F hX => ?_
    repeat (first | refine gG ?_ | refine zN1 (fun hlen => ?_) | refine zN2 (fun hlen => ?_))
    refine x_loop [4, 5, 13, 14, 15, 16, 17, 18, 19, 20, 21, 22, 23, 24, 25] (fun k : Nat => [(13, .c (.lit (.int .i64 (k : Nat))))]) (fun _ => []) (fun k => k ≤ l.length ∧ eqAt l r k) (fun k => l.length - k) 0 ⟨Nat.zero_le _, rfl⟩ ⟨rfl, trivial⟩ rfl ?_
    rintro k ⟨hk, hE⟩
    repeat (first | refine gG ?_ | refine zN1 (fun hlen => ?_) | refine zN2 (fun hlen => ?_))
    refine x_cond rfl (fun h => ?_) (fun h => ?_)
    · have hk' : k < l.length := by simpa using h
      have hk2 : k < r.length := by omega
      obtain ⟨a, ha⟩ := nth hk'
      obtain ⟨b, hb⟩ := nth hk2
      have hat := int_at ha
      have hbt := int_at hb
      cases d1 : decide (a = b)
      · have d2 : (!decide (a = b)) = true := by rw [d1]; rfl
        have hf : decide (l = r) = false := decide_eq_false fun e => by
          rw [e, hb] at ha
          injection ha with ha
          exact of_decide_eq_false d1 ha.symm
        clear h ha hb q1 q2 hE
        repeat (first | refine gG ?_ | refine zN1 (fun hlen => ?_) | refine zN2 (fun hlen => ?_))
        refine ac_draw [1, 1, 1, 1, 1, 1, 1, 1, 1] [0, 1, 2, 3, 4, 5, 6, 7, 8] (by kernel_rfl) (by kernel_rfl) ?_
        refine gW ?_
        apply w_q; (focus exact rfl); (focus exact rfl); focus (intro _; (refine zIx k hk' ?_); exact det_refl)
        apply w_q; (focus exact rfl); (focus exact rfl); focus (intro _; (refine zEl1 hat ?_); exact det_refl)
        refine gW ?_
        apply w_q; (focus exact rfl); (focus exact rfl); focus (intro _; (refine zIx k hk2 ?_); exact det_refl)
        apply w_q; (focus exact rfl); (focus exact rfl); focus (intro _; (refine zEl1 hbt ?_); exact det_refl)
        refine gW ?_
        refine w_nil ?_
        repeat (first | refine gG ?_ | refine zN1 (fun hlen => ?_) | refine zN2 (fun hlen => ?_))
        first | refine zR ?_ | refine zQ ?_
        rw [hf]; rfl
      · have d2 : (!decide (a = b)) = false := by rw [d1]; rfl
        have hE' : eqAt l r (k + 1) := by
          unfold eqAt at *
          rw [List.take_add_one, List.take_add_one, hE, ha, hb, of_decide_eq_true d1]
        clear h ha hb q1 q2 hE
        repeat (first | refine gG ?_ | refine zN1 (fun hlen => ?_) | refine zN2 (fun hlen => ?_))
        refine ac_draw [1, 1, 1, 1, 1, 1, 1, 1, 1] [0, 1, 2, 3, 4, 5, 6, 7, 8] (by kernel_rfl) (by kernel_rfl) ?_
        refine gW ?_
        apply w_q; (focus exact rfl); (focus exact rfl); focus (intro _; (refine zIx k hk' ?_); exact det_refl)
        apply w_q; (focus exact rfl); (focus exact rfl); focus (intro _; (refine zEl1 hat ?_); exact det_refl)
        refine gW ?_
        apply w_q; (focus exact rfl); (focus exact rfl); focus (intro _; (refine zIx k hk2 ?_); exact det_refl)
        apply w_q; (focus exact rfl); (focus exact rfl); focus (intro _; (refine zEl1 hbt ?_); exact det_refl)
        refine gW ?_
        refine w_nil ?_
        repeat (first | refine gG ?_ | refine zN1 (fun hlen => ?_) | refine zN2 (fun hlen => ?_))
        exact ⟨k + 1, ⟨hk', hE'⟩, by omega, x_wkd 0 ⟨rfl, trivial⟩ rfl (by repeat (first | exact ag_refl | refine ag_upd rfl ?_ | refine ag_at rfl rfl ?_))⟩
    · have hk' : k = l.length := by
        have : ¬ k < l.length := by simpa using h
        omega
      subst hk'
      have hf : decide (l = r) = true := decide_eq_true (by
        unfold eqAt at hE
        rwa [List.take_length, hlr, List.take_length] at hE)
      clear h hE q1 q2
      repeat (first | refine gG ?_ | refine zN1 (fun hlen => ?_) | refine zN2 (fun hlen => ?_))
      first | refine zR ?_ | refine zQ ?_
      rw [hf]; rfl
end Go.Proofs.Ytdogdjcjmhogmaa
namespace Go.Proofs.Ytdogdjcjmhogmaa
open Go.RowKit
theorem heap_mark {F : Frm} {M : Mm} {hp : List Blk} {w w' : World} (h : HeapOk F M hp w) (g : Nat) (hg : F.may g) (hno : ∀ (i : Nat) (x : Blk), hp[i]? = some x → x.blk ≠ some g) (hos : w'.os = w.os) (ht : w'.tape = w.tape) (hout : w'.output = w.output) (hsz : w'.heap.size = w.heap.size) (hblk : ∀ b, b ≠ g → w'.heap[b]? = w.heap[b]?) (hc : ∀ p, w'.cell? p = w.cell? p) : HeapOk F M hp w' := by
  refine ⟨fun p v hp => by rw [hc]; exact h.mem p v hp, h.ext, ⟨hos.trans h.frm.os, ht.trans h.frm.tape, hout.trans h.frm.output, by rw [hsz]; exact h.frm.size, fun b hb hX => ?_⟩, fun i x hx => ?_, h.sep, h.out⟩
  · rw [hblk b fun e => ?_]
    · exact h.frm.block b hb hX
    · subst e
      rcases hg with h1 | h1
      · exact hX h1
      · omega
  · exact (h.at_ i x hx).keep (Sub.refl _) fun b hb _ => hblk b fun e => hno i x hx (by rw [← e]; exact hb)
theorem freeze_blk (w : World) (g k b : Nat) (h : b ≠ g) : (w.freeze ⟨g, k, none⟩ 1).heap[b]? = w.heap[b]? := by
  unfold World.freeze
  rw [if_neg (by decide)]
  simp [Array.getElem?_modify, Ne.symm h]
theorem freeze_size (w : World) (g k : Nat) : (w.freeze ⟨g, k, none⟩ 1).heap.size = w.heap.size := by
  unfold World.freeze
  rw [if_neg (by decide)]
  simp
theorem freeze_cells (w : World) (g k : Nat) (p : Addr) : (w.freeze ⟨g, k, none⟩ 1).cell? p = w.cell? p := by
  unfold World.freeze
  rw [if_neg (by decide)]
  unfold World.cell?
  simp only [Array.getElem?_modify]
  by_cases h : g = p.block
  · rw [if_pos h]
    cases hb : w.heap[p.block]? with
    | none => rfl
    | some o =>
      simp only [Option.map_some]
      cases o <;> rfl
  · rw [if_neg h]
section
variable {P : Program} {F : Frm} {L : Tab} {d : Option Tmp} {ty : TypeId} {pos : String} {aft : Array Edge} {g : Option (Nat × Bool)} {ρ : Operand → AV} {hp : List Blk} {K : AV → List Blk → Prop}
theorem lo_convb (hL : TabOk P L) {t e e' : TypeId} {ti te : TI} {x : Operand} {i n sz : Nat} {v : Value} {cs : List T} (hn : 0 < n) (hx : ρ x = .own i v) (hi : hp[i]? = some (.row v e' sz n cs)) (ht : L.look t = some ti) (hd : ti.d = .slice e) (hte : L.look e = some te) (hed : te.d = .int .u8) (h : K (.c (.row n sz cs)) (hp.set i .dead)) : LO P F ⟨d, .convert t t x, ty, pos, aft, g⟩ ρ hp K := by
  refine ⟨fun M ev w he hh => ?_⟩
  have h1 := he x (by simp [Op.operands])
  rw [hx] at h1
  simp only [RA] at h1
  obtain ⟨xs, ho, -⟩ := hh.at_ i _ hi
  obtain ⟨A, c, rfl, hnc, hcm⟩ := ownO_shape ho
  obtain ⟨ad, rfl⟩ := ho.some_ hn
  have hb := ho.block
  have hmay := (hh.out i _ ad.block hi rfl).1
  obtain ⟨h2, h3⟩ := heap_frz hh hi
  have hlt : i < hp.length := (List.getElem?_eq_some_iff.1 hi).1
  have hno : ∀ (j : Nat) (y : Blk), (hp.set i .dead)[j]? = some y → y.blk ≠ some ad.block := by
    intro j y hy hyb
    by_cases hj : i = j
    · subst hj
      rw [List.getElem?_set_self hlt] at hy
      cases hy
      cases hyb
    · rw [List.getElem?_set_ne hj] at hy
      exact hj (hh.sep i j _ y ad.block hi hy rfl hyb)
  obtain ⟨w', hrun, hw'⟩ : ∃ w', (execOp ev ⟨d, .convert t t x, ty, pos, aft, g⟩).run P w = .ok (.value (.slice (some ad) n c)) w' ∧ (w' = w ∨ ∃ k, w' = w.freeze ⟨ad.block, k, none⟩ 1) := by
    cases hs : w.shape? ad.block with
    | none => exact ⟨w, by simp [execOp, h1.1, convert, run_underlying (hL.slice ht hd), run_underlying (hL.int hte hed), markStringish, hs], .inl rfl⟩
    | some q => exact ⟨w.freeze ⟨ad.block, q.2, none⟩ 1, by obtain ⟨q1, q2⟩ := q; simp [execOp, h1.1, convert, run_underlying (hL.slice ht hd), run_underlying (hL.int hte hed), markStringish, hs], .inr ⟨q.2, rfl⟩⟩
  rw [hrun]
  have hext : Ext F.may M (frB M (Value.ownBlock (.slice (some ad) n c)) w) := by
    refine ⟨frB_sub _ _ _, fun p z hz => ?_⟩
    cases hm : M p with
    | some z' =>
      have := frB_sub M (Value.ownBlock (.slice (some ad) n c)) w p z' hm
      rw [hz] at this
      exact .inl (by rw [← this])
    | none =>
      obtain ⟨hg, _⟩ := frB_new hz hm
      exact .inr (hh.out i _ p.block hi hg).1
  refine ⟨_, _, _, h, hext, ?_, by simp only [RA]; exact h3⟩
  rcases hw' with rfl | ⟨k, rfl⟩
  · exact h2
  · have e1 : (w.freeze ⟨ad.block, k, none⟩ 1).os = w.os := by unfold World.freeze; rw [if_neg (by decide)]
    have e2 : (w.freeze ⟨ad.block, k, none⟩ 1).tape = w.tape := by unfold World.freeze; rw [if_neg (by decide)]
    have e3 : (w.freeze ⟨ad.block, k, none⟩ 1).output = w.output := by unfold World.freeze; rw [if_neg (by decide)]
    exact heap_mark h2 ad.block hmay hno e1 e2 e3 (freeze_size w _ _) (fun b hb => freeze_blk w _ _ b hb) (freeze_cells w _ _)
end
end Go.Proofs.Ytdogdjcjmhogmaa
namespace Go.Proofs.Ytdogdjcjmhogmaa
open Go.RowKit
set_option maxRecDepth 100000 in
set_option maxHeartbeats 1000000 in
theorem sameBytes_af (a b : List UInt8) : AF Try.prog 24 [bytRow a, bytRow b] (· = .lit (.bool (decide (bs a = bs b)))) := by
  refine af_enter tok Try.func24 Try.ntmps24 Try.results24 rfl (by kernel_rfl) rfl rfl fun F hX => ?_
  repeat (first | refine gG ?_)
  refine zStr a rfl rfl ?_
  repeat (first | refine gG ?_)
  refine zStr b rfl rfl ?_
  repeat (first | refine gG ?_)
  first | refine zR ?_ | refine zQ ?_
  rfl
theorem put_one : putS (⟨[(120 : UInt8)].toArray⟩ : ByteArray) [] = ((1, 0), [⟨1, ⟨[(120 : UInt8)].toArray⟩, 1⟩]) := by
  rw [putS, bsz, if_neg (by decide)]
  rfl
set_option maxRecDepth 100000 in
set_option maxHeartbeats 8000000 in
theorem chunkShelf_af (acts : List Acq) (hbd : ∀ a ∈ acts, a.d.length ≤ 1048576 ∧ a.l.length ≤ 1048576) : AF Try.prog 4 [Acq.row acts] (· = .lit (.bool true)) := by
  have hp1 := fun b bp bn => put_ag b bp bn [] pok_nil [120]
  rw [put_one] at hp1
  dsimp only at hp1
  refine af_enter tok Try.func4 Try.ntmps4 Try.results4 rfl (by kernel_rfl) rfl rfl fun F hX => ?_
  repeat (first | refine gX ?_ | refine zN1 (fun hlen => ?_) | refine zN2 (fun hlen => ?_) | refine zAl (fun _ => ?_))
  refine zCallG [] shNew_ag ?_
  rintro _ _ ⟨b, bp, bn, rfl, rfl⟩
  refine ⟨_, _, re_refl, rfl, rfl, ?_⟩
  repeat (first | refine gX ?_ | refine zN1 (fun hlen => ?_) | refine zN2 (fun hlen => ?_) | refine zAl (fun _ => ?_))
  refine zMm (fun br => ?_)
  repeat (first | refine gX ?_ | refine zN1 (fun hlen => ?_) | refine zN2 (fun hlen => ?_) | refine zAl (fun _ => ?_))
  refine zCallG [] shNew_ag ?_
  rintro _ _ ⟨b2, bp2, bn2, rfl, rfl⟩
  refine ⟨.ptr 4 b2 0, _, re_ptr, rfl, rfl, ?_⟩
  repeat (first | refine gX ?_ | refine zN1 (fun hlen => ?_) | refine zN2 (fun hlen => ?_) | refine zAl (fun _ => ?_))
  refine zBo (fun v => ?_)
  repeat (first | refine gX ?_ | refine zN1 (fun hlen => ?_) | refine zN2 (fun hlen => ?_) | refine zAl (fun _ => ?_))
  refine lo_convb tok (by omega) rfl rfl rfl rfl rfl rfl ?_
  repeat (first | refine gX ?_ | refine zN1 (fun hlen => ?_) | refine zN2 (fun hlen => ?_) | refine zAl (fun _ => ?_))
  refine zCallG [4, 5, 6] (hp1 b2 bp2 bn2) ?_
  rintro _ _ ⟨rfl, rfl⟩
  refine ⟨.tup [.c (.lit (.int .i64 1)), .c (.lit (.int .i64 0))], _, re_refl, rfl, rfl, ?_⟩
  repeat (first | refine gG ?_ | refine zN1 (fun hlen => ?_) | refine zN2 (fun hlen => ?_) | refine zAl (fun _ => ?_))
  refine x_drop 4 rfl ?_
  have hacts : acts.length ≤ 9223372036854775807 := by assumption
  refine x_loop [2, 7, 8, 9, 10, 11, 12, 13, 14, 15, 16, 17, 18, 19, 20, 21, 22, 23, 24, 25, 26, 27, 28, 29, 47, 48, 49, 50, 51, 52, 53, 54, 55, 56, 57, 58, 59, 60, 61, 62, 63, 64, 65, 66, 67, 68, 69, 70, 71, 72, 73, 74, 75, 76, 77, 78, 79, 80, 81, 82, 83, 84, 85, 86, 87, 88, 89, 90, 91, 92, 93, 94, 95, 96, 97, 98, 99, 100, 101, 102, 103, 104, 105, 106, 107, 108, 109, 110, 111, 112, 113, 114, 115, 116, 117, 118, 119, 120, 121, 122, 123, 124, 125, 126, 127, 128, 129, 130, 131, 132, 133, 134, 135, 136, 137, 138, 139, 140, 141, 142, 143, 144, 145, 146, 147, 148, 149, 150, 151, 152, 153, 154, 155, 156, 157, 158, 159, 160, 161, 162, 163, 164, 165, 166, 167, 168, 169, 170, 171, 172, 173, 174, 175, 176, 177, 178, 179, 180, 181, 182, 183, 184, 185, 186, 187, 188, 189, 190, 191, 192, 193, 194, 195, 196, 197, 198, 199, 200, 201, 202, 203, 204, 205, 206, 207, 208, 209, 210, 211, 212, 213, 214, 215, 216, 217, 218, 219, 220, 221, 222] (fun y : Nat × List PcB => [(47, .c (.lit (.int .i64 (y.1 : Nat))))]) (fun y => shP b bp bn (y.2.map Prod.fst) ++ rfP br y.2) (fun y => y.1 ≤ acts.length ∧ POk (y.2.map Prod.fst)) (fun y => acts.length - y.1) (0, []) ⟨Nat.zero_le _, pok_nil⟩ ⟨rfl, trivial⟩ rfl ?_
  rintro ⟨k, E⟩ ⟨hk, hD⟩
  dsimp only at hk hD ⊢
  repeat (first | refine gG ?_ | refine zN1 (fun hlen => ?_) | refine zN2 (fun hlen => ?_) | refine zAl (fun _ => ?_))
  refine x_cond rfl (fun h => ?_) (fun h => ?_)
  rotate_left
  · repeat (first | refine gG ?_ | refine zN1 (fun hlen => ?_) | refine zN2 (fun hlen => ?_) | refine zAl (fun _ => ?_))
    first | refine zR ?_ | refine zQ ?_
    rfl
  have hk' : k < acts.length := by simpa using h
  obtain ⟨a, ha⟩ := nthC hk'
  have hat := flat_at Acq.ts 4 Acq.ts_len ha
  obtain ⟨hbd1, hbd2⟩ := hbd a (List.mem_of_getElem? ha)
  clear h ha hbd hp1
  obtain ⟨ak, an, ad, al⟩ := a
  dsimp only at hat hbd1 hbd2
  repeat (first | refine ac_seq ?_ | refine ac_block ?_ | refine ac_skip ?_)
  refine x_frame [] _ (List.Perm.refl _) (fun F' => ?_)
  refine ac_region ?_
  repeat (first | refine gO ?_)
  refine zIx k hk' ?_
  repeat (first | refine gO ?_)
  refine zEl hat rfl ?_
  repeat (first | refine gO ?_ | refine zAl (fun _ => ?_))
  refine x_frz0 8 [.lit (.int .i64 ak), .lit (.int .i64 an), bytRow ad, intRow al] ?_
  cases d3 : decide ((300 : Int) ≤ ((k : Nat) : Int))
  rotate_left
  · repeat (first | refine gG ?_ | refine zN1 (fun hlen => ?_) | refine zN2 (fun hlen => ?_) | refine zAl (fun _ => ?_))
    first | refine zR ?_ | refine zQ ?_
    rfl
  repeat (first | refine ac_seq ?_ | refine ac_region ?_ | refine zF ?_ | refine ac_skip ?_ | refine gO ?_)
  refine x_join (A := { e : List PcB // POk (e.map Prod.fst) }) [9, 10, 11, 12, 13, 14, 15, 16, 17, 18, 19, 20, 21, 56, 57, 58, 59, 60, 61, 62, 63, 64, 65, 66, 67, 68, 69, 70, 71, 72, 73, 74, 75, 76, 77, 78, 79, 80, 81, 82, 83, 84, 85, 86, 87, 88, 89, 90, 91, 92, 93, 94, 95, 96, 97, 98, 99, 100, 101, 102, 103, 104, 105, 106, 107, 108, 109, 110, 111, 112, 113, 114, 115, 116, 117, 118, 119, 120, 121, 122, 123, 124, 125, 126, 127, 128, 129, 130, 131, 132, 133, 134, 135, 136, 137, 138, 139, 140, 141, 142, 143, 144, 145, 146, 147, 148, 149] (fun _ => [(9, .c (.lit (.bool true)))]) (fun e => shP b bp bn (e.1.map Prod.fst) ++ rfP br e.1) ?_ ?_
  · rintro ⟨E, hD⟩
    dsimp only
    have hs1 := size_ag b bp bn (E.map Prod.fst) hD
    have hs2 := rsize_ag br E hD
    rw [List.length_map] at hs1
    have q1 : (!decide (((E.length : Nat) : Int) = ((E.length : Nat) : Int))) = false := by rw [decide_eq_true rfl]; rfl
    have q2 : (!decide (((bytesS (E.map Prod.fst) : Nat) : Int) = ((bytesS (E.map Prod.fst) : Nat) : Int))) = false := by rw [decide_eq_true rfl]; rfl
    rcases look_e (E := E) an with ⟨l1, l2⟩ | ⟨j, p, bj, l1, l2, l3, l4, l5⟩
    · have hg := get_none_ag b bp bn (E.map Prod.fst) an l1
      repeat (first | refine ac_seq ?_ | refine ac_block ?_ | refine ac_region ?_ | refine ac_skip ?_ | refine ac_exit ?_ | refine zT ?_ | refine zF ?_ | refine gO ?_ | refine zN1 (fun hlen => ?_))
      refine lo_frame (shP b bp bn (E.map Prod.fst)) _ (List.Perm.refl _) (fun F' => ?_)
      refine zCallG [0, 1, 2] (hg) ?_
      rintro _ _ ⟨rfl, rfl⟩
      refine ⟨_, _, re_refl, rfl, rfl, ?_⟩
      repeat (first | refine ac_seq ?_ | refine ac_block ?_ | refine ac_region ?_ | refine ac_skip ?_ | refine ac_exit ?_ | refine zT ?_ | refine zF ?_ | refine gO ?_ | refine zN1 (fun hlen => ?_))
      refine zLki 3 57 l2 ?_
      repeat (first | refine ac_seq ?_ | refine ac_block ?_ | refine ac_region ?_ | refine ac_skip ?_ | refine ac_exit ?_ | refine zT ?_ | refine zF ?_ | refine gO ?_ | refine zN1 (fun hlen => ?_))
      refine lo_frame (shP b bp bn (E.map Prod.fst)) _ (List.Perm.refl _) (fun F' => ?_)
      refine zCallG [0, 1, 2] (hs1) ?_
      rintro _ _ ⟨rfl, rfl⟩
      refine ⟨_, _, re_refl, rfl, rfl, ?_⟩
      repeat (first | refine ac_seq ?_ | refine ac_block ?_ | refine ac_region ?_ | refine ac_skip ?_ | refine ac_exit ?_ | refine zT ?_ | refine zF ?_ | refine gO ?_ | refine zN1 (fun hlen => ?_))
      refine lo_frame (rfP br E) _ List.perm_append_comm (fun F' => ?_)
      refine zCallAll hs2 (List.Perm.refl _) ?_
      rintro _ _ ⟨rfl, rfl⟩
      refine ⟨_, re_refl, ?_⟩
      refine al_wk (wk_perm List.perm_append_comm) ?_
      repeat (first | refine ac_seq ?_ | refine ac_block ?_ | refine ac_region ?_ | refine ac_skip ?_ | refine ac_exit ?_ | refine zT ?_ | refine zF ?_ | refine gO ?_ | refine zN1 (fun hlen => ?_))
      exact ⟨(k + 1, E), ⟨hk', hD⟩, by simp only; omega, x_wk ⟨rfl, trivial⟩ rfl (by repeat (first | exact ag_refl | refine ag_upd rfl ?_ | refine ag_at rfl rfl ?_))⟩
    · have hg := get_some_ag b bp bn (E.map Prod.fst) hD an p l2
      have hbr : ∀ x, ((shP b bp bn (E.map Prod.fst) ++ rfP br E) ++ x)[j + 4]? = some (hbB (p, bj)) := fun x => by
        have h1 := fam_at hbB l3
        have h2 : (shP b bp bn (E.map Prod.fst) ++ rfP br E)[j + 4]? = some (hbB (p, bj)) := h1
        rw [List.getElem?_append_left (List.getElem?_eq_some_iff.1 h2).1]; exact h2
      obtain ⟨pn, pt, ph⟩ := p
      obtain ⟨pl, rfl⟩ : ∃ pl, pt = bs pl := ⟨pt.data.toList, (bs_self pt).symm⟩
      dsimp only at hg l5 hbr
      have q3 : decide (ph = ph) = true := decide_eq_true rfl
      have q4 : decide (bs pl = bs pl) = true := decide_eq_true rfl
      clear l1 l2 l3 l4
      repeat (first | refine ac_seq ?_ | refine ac_block ?_ | refine ac_region ?_ | refine ac_skip ?_ | refine ac_exit ?_ | refine zT ?_ | refine zF ?_ | refine gO ?_ | refine zN1 (fun hlen => ?_))
      refine lo_frame (shP b bp bn (E.map Prod.fst)) _ (List.Perm.refl _) (fun F' => ?_)
      refine zCallG [0, 1, 2] (hg) ?_
      rintro _ _ ⟨rfl, rfl⟩
      refine ⟨_, _, re_refl, rfl, rfl, ?_⟩
      repeat (first | refine ac_seq ?_ | refine ac_block ?_ | refine ac_region ?_ | refine ac_skip ?_ | refine ac_exit ?_ | refine zT ?_ | refine zF ?_ | refine gO ?_ | refine zN1 (fun hlen => ?_))
      refine lo_asp (j + 4) (zLki 3 57 l5 ⟨_, _, rfl, ?_⟩)
      repeat (first | refine ac_seq ?_ | refine ac_block ?_ | refine ac_region ?_ | refine ac_skip ?_ | refine zT ?_ | refine zF ?_ | refine gO ?_)
      refine ac_drawB [0, 1, 3, 7, 15, 31, 63, 63, 191, 447, 959, 2047, 4095, 8191, 16383, 32767, 16383, 81919, 212991, 475135, 1048575, 2097151, 4194303] [1, 1, 1, 1, 1, 1, 1, 1, 1, 1, 1, 1, 1, 1, 1, 1, 1, 1, 1, 1, 1, 1, 1] [0, 1, 2, 3, 4, 5, 6, 7, 8, 9, 10, 11, 12, 13, 14, 15, 16, 17, 18, 19, 20, 21, 22] (by kernel_rfl) (by kernel_rfl) ?_
      refine gW ?_
      try (first | (apply w_un; (focus exact rfl); (focus exact rfl); (focus exact rfl); (focus exact rfl)) | (apply w_no; (focus exact rfl); (focus exact rfl); (focus exact rfl); (focus exact rfl); focus (first | rfl | assumption | exact neg_t (by assumption) | exact neg_f (by assumption))) | (apply w_qg; (focus exact rfl); (focus exact rfl); (focus exact rfl); (focus exact rfl); (focus (first | rfl | assumption | exact neg_t (by assumption) | exact neg_f (by assumption))); (focus (intro _; (refine lo_load_box1 tok rfl (hbr _) rfl rfl rfl ?_); exact det_refl))))
      try refine gW ?_
      try (first | (apply w_un; (focus exact rfl); (focus exact rfl); (focus exact rfl); (focus exact rfl)) | (apply w_no; (focus exact rfl); (focus exact rfl); (focus exact rfl); (focus exact rfl); focus (first | rfl | assumption | exact neg_t (by assumption) | exact neg_f (by assumption))) | (apply w_qg; (focus exact rfl); (focus exact rfl); (focus exact rfl); (focus exact rfl); (focus (first | rfl | assumption | exact neg_t (by assumption) | exact neg_f (by assumption))); (focus (intro _; (refine zStr pl rfl rfl ?_); exact det_refl))))
      try refine gW ?_
      try (first | (apply w_un; (focus exact rfl); (focus exact rfl); (focus exact rfl); (focus exact rfl)) | (apply w_no; (focus exact rfl); (focus exact rfl); (focus exact rfl); (focus exact rfl); focus (first | rfl | assumption | exact neg_t (by assumption) | exact neg_f (by assumption))) | (apply w_qg; (focus exact rfl); (focus exact rfl); (focus exact rfl); (focus exact rfl); (focus (first | rfl | assumption | exact neg_t (by assumption) | exact neg_f (by assumption))); (focus (intro _; (refine lo_load_box1 tok rfl (hbr _) rfl rfl rfl ?_); exact det_refl))))
      try refine gW ?_
      refine w_nil ?_
      repeat (first | refine ac_seq ?_ | refine ac_block ?_ | refine ac_region ?_ | refine ac_skip ?_ | refine ac_exit ?_ | refine zT ?_ | refine zF ?_ | refine gO ?_ | refine zN1 (fun hlen => ?_))
      refine lo_frame (shP b bp bn (E.map Prod.fst)) _ (List.Perm.refl _) (fun F' => ?_)
      refine zCallG [0, 1, 2] (hs1) ?_
      rintro _ _ ⟨rfl, rfl⟩
      refine ⟨_, _, re_refl, rfl, rfl, ?_⟩
      repeat (first | refine ac_seq ?_ | refine ac_block ?_ | refine ac_region ?_ | refine ac_skip ?_ | refine ac_exit ?_ | refine zT ?_ | refine zF ?_ | refine gO ?_ | refine zN1 (fun hlen => ?_))
      refine lo_frame (rfP br E) _ List.perm_append_comm (fun F' => ?_)
      refine zCallAll hs2 (List.Perm.refl _) ?_
      rintro _ _ ⟨rfl, rfl⟩
      refine ⟨_, re_refl, ?_⟩
      refine al_wk (wk_perm List.perm_append_comm) ?_
      repeat (first | refine ac_seq ?_ | refine ac_block ?_ | refine ac_region ?_ | refine ac_skip ?_ | refine ac_exit ?_ | refine zT ?_ | refine zF ?_ | refine gO ?_ | refine zN1 (fun hlen => ?_))
      exact ⟨(k + 1, E), ⟨hk', hD⟩, by simp only; omega, x_wk ⟨rfl, trivial⟩ rfl (by repeat (first | exact ag_refl | refine ag_upd rfl ?_ | refine ag_at rfl rfl ?_))⟩
  cases d0 : decide (ak = 0)
  rotate_left
  · have hp1 := put_ag b bp bn (E.map Prod.fst) hD ad
    have hp2 := rput_ag br E hD ad
    have hpk := pok_put hD (⟨ad.toArray⟩ : ByteArray)
    generalize putS (⟨ad.toArray⟩ : ByteArray) (E.map Prod.fst) = Q at *
    obtain ⟨⟨qn, qe⟩, D'⟩ := Q
    dsimp only at hp1 hp2 hpk
    have e1 : decide (qn = qn) = true := decide_eq_true rfl
    have e2 : decide (qe = qe) = true := decide_eq_true rfl
    repeat (first | refine ac_seq ?_ | refine ac_block ?_ | refine ac_region ?_ | refine ac_skip ?_ | refine ac_exit ?_ | refine zT ?_ | refine zF ?_ | refine gO ?_ | refine zN1 (fun hlen => ?_))
    refine lo_frame (shP b bp bn (E.map Prod.fst)) _ (List.Perm.refl _) (fun F' => ?_)
    refine zCallG [0, 1, 2] (hp1) ?_
    rintro _ _ ⟨rfl, rfl⟩
    refine ⟨.tup [.c (.lit (.int .i64 qn)), .c (.lit (.int .i64 qe))], _, re_refl, rfl, rfl, ?_⟩
    repeat (first | refine ac_seq ?_ | refine ac_block ?_ | refine ac_region ?_ | refine ac_skip ?_ | refine ac_exit ?_ | refine zT ?_ | refine zF ?_ | refine gO ?_ | refine zN1 (fun hlen => ?_))
    refine lo_frame (rfP br E) _ List.perm_append_comm (fun F' => ?_)
    refine zCallAll (hp2) (List.Perm.refl _) ?_
    rintro _ _ ⟨E', hE', rfl, rfl⟩
    refine ⟨.tup [.c (.lit (.int .i64 qn)), .c (.lit (.int .i64 qe))], re_refl, ?_⟩
    refine al_wk (wk_perm List.perm_append_comm) ?_
    repeat (first | refine ac_seq ?_ | refine ac_block ?_ | refine ac_region ?_ | refine ac_skip ?_ | refine ac_exit ?_ | refine zT ?_ | refine zF ?_ | refine gO ?_ | refine zN1 (fun hlen => ?_))
    refine ⟨⟨E', by rw [hE']; exact hpk⟩, x_wk ⟨congrArg (fun z => AV.c (T.lit (Value.bool z))) e2, trivial⟩ ?_ (by repeat (first | exact ag_refl | refine ag_upd rfl ?_ | refine ag_at rfl rfl ?_))⟩
    dsimp only
    rw [hE']
  cases d1 : decide (ak = 1)
  rotate_left
  · have hp1 := drop_ag b bp bn (E.map Prod.fst) hD an
    have hp2 := rdrop_ag br E hD an
    have hpk := pok_drop hD an
    generalize dropS an (E.map Prod.fst) = Q at *
    obtain ⟨qe, D'⟩ := Q
    dsimp only at hp1 hp2 hpk
    have e2 : decide (qe = qe) = true := decide_eq_true rfl
    repeat (first | refine ac_seq ?_ | refine ac_block ?_ | refine ac_region ?_ | refine ac_skip ?_ | refine zT ?_ | refine zF ?_ | refine gO ?_)
    refine ac_drawT [0, 0, 0, 2, 0, 0, 0, 2, 1, 1] (.fin [0, 1, 2, 4, 5, 6, 3, 7, 8, 9]) (by kernel_rfl) (by kernel_rfl) ?_
    refine wt_fin ?_
    refine gW ?_
    apply w_l; (focus exact rfl); (focus exact rfl); (first | (refine lo_frame (shP b bp bn (E.map Prod.fst)) _ (List.Perm.refl _) (fun F' => ?_); refine zCallG [0, 1, 2] hp1 ?_; rintro _ _ ⟨rfl, rfl⟩; refine ⟨_, _, re_refl, rfl, rfl, ?_⟩) | (refine lo_frame (shP b bp bn (E.map Prod.fst)) _ List.perm_append_comm (fun F' => ?_); refine zCallG [0, 1, 2] hp1 ?_; rintro _ _ ⟨rfl, rfl⟩; refine ⟨_, _, re_refl, rfl, rfl, ?_⟩))
    apply w_l; (focus exact rfl); (focus exact rfl); (refine lo_frame (rfP br E) _ List.perm_append_comm (fun F' => ?_); refine zCallAll hp2 (List.Perm.refl _) ?_; rintro _ _ ⟨E', hE', rfl, rfl⟩; refine ⟨_, re_refl, ?_⟩)
    refine gW ?_
    refine w_nil ?_
    refine ⟨⟨E', by rw [hE']; exact hpk⟩, ?_⟩
    first | (refine x_wk ⟨congrArg (fun z => AV.c (T.lit (Value.bool z))) e2, trivial⟩ ?_ (by repeat (first | exact ag_refl | refine ag_upd rfl ?_ | refine ag_at rfl rfl ?_)); dsimp only; first | (rw [hE']; done) | (rw [hE']; rfl)) | (refine Wk.trans (wk_perm List.perm_append_comm) ?_; refine x_wk ⟨congrArg (fun z => AV.c (T.lit (Value.bool z))) e2, trivial⟩ ?_ (by repeat (first | exact ag_refl | refine ag_upd rfl ?_ | refine ag_at rfl rfl ?_)); dsimp only; first | (rw [hE']; done) | (rw [hE']; rfl))
        
  cases d2 : decide (ak = 2)
  rotate_left
  · have hp1 := keep_ag b bp bn (E.map Prod.fst) hD ad hbd1
    have hp2 := rkeep_ag br E hD ad hbd1
    have hpk := pok_keep (r := (cutL ad).map bs) (out := []) hD
    generalize keepS ((cutL ad).map bs) [] (E.map Prod.fst) = Q at *
    obtain ⟨⟨ql, qe⟩, D'⟩ := Q
    unfold KeepR at hp1
    unfold RKeepR at hp2
    dsimp only at hp1 hp2 hpk
    have hq := eqInt_af ql ql
    rw [decide_eq_true rfl] at hq
    have e2 : decide (qe = qe) = true := decide_eq_true rfl
    repeat (first | refine ac_seq ?_ | refine ac_block ?_ | refine ac_region ?_ | refine ac_skip ?_ | refine ac_exit ?_ | refine zT ?_ | refine zF ?_ | refine gO ?_ | refine zN1 (fun hlen => ?_))
    refine lo_frame (shP b bp bn (E.map Prod.fst)) _ (List.Perm.refl _) (fun F' => ?_)
    refine zCallG [0, 1, 2] (hp1) ?_
    rintro _ _ ⟨rfl, rfl⟩
    refine ⟨.tup [.c (intRow ql), .c (.lit (.int .i64 qe))], _, re_refl, rfl, rfl, ?_⟩
    repeat (first | refine ac_seq ?_ | refine ac_block ?_ | refine ac_region ?_ | refine ac_skip ?_ | refine ac_exit ?_ | refine zT ?_ | refine zF ?_ | refine gO ?_ | refine zN1 (fun hlen => ?_))
    refine lo_frame (rfP br E) _ List.perm_append_comm (fun F' => ?_)
    refine zCallAll (hp2) (List.Perm.refl _) ?_
    rintro _ _ ⟨E', hE', rfl, rfl⟩
    refine ⟨.tup [.c (intRow ql), .c (.lit (.int .i64 qe))], re_refl, ?_⟩
    refine al_wk (wk_perm List.perm_append_comm) ?_
    repeat (first | refine ac_seq ?_ | refine ac_block ?_ | refine ac_region ?_ | refine ac_skip ?_ | refine ac_exit ?_ | refine zT ?_ | refine zF ?_ | refine gO ?_ | refine zN1 (fun hlen => ?_))
    refine zCall hq ?_
    rintro _ rfl
    repeat (first | refine ac_seq ?_ | refine ac_block ?_ | refine ac_region ?_ | refine ac_skip ?_ | refine ac_exit ?_ | refine zT ?_ | refine zF ?_ | refine gO ?_ | refine zN1 (fun hlen => ?_))
    refine ⟨⟨E', by rw [hE']; exact hpk⟩, x_wk ⟨congrArg (fun z => AV.c (T.lit (Value.bool z))) e2, trivial⟩ ?_ (by repeat (first | exact ag_refl | refine ag_upd rfl ?_ | refine ag_at rfl rfl ?_))⟩
    dsimp only
    rw [hE']
  cases d4 : decide (ak = 3)
  rotate_left
  · have hp1 := load_ag b bp bn (E.map Prod.fst) hD al hbd2
    have hp2 := rload_ag br E hD al hbd2
    generalize loadS (E.map Prod.fst) al [] = Q at *
    obtain ⟨ql, qe⟩ := Q
    unfold LoadR at hp1
    unfold RLoadR at hp2
    dsimp only at hp1 hp2
    have hq := sameBytes_af ql ql
    rw [decide_eq_true rfl] at hq
    have e2 : decide (qe = qe) = true := decide_eq_true rfl
    repeat (first | refine ac_seq ?_ | refine ac_block ?_ | refine ac_region ?_ | refine ac_skip ?_ | refine ac_exit ?_ | refine zT ?_ | refine zF ?_ | refine gO ?_ | refine zN1 (fun hlen => ?_))
    refine lo_frame (shP b bp bn (E.map Prod.fst)) _ (List.Perm.refl _) (fun F' => ?_)
    refine zCallG [0, 1, 2] (hp1) ?_
    rintro _ _ ⟨rfl, rfl⟩
    refine ⟨.tup [.c (bytRow ql), .c (.lit (.int .i64 qe))], _, re_refl, rfl, rfl, ?_⟩
    repeat (first | refine ac_seq ?_ | refine ac_block ?_ | refine ac_region ?_ | refine ac_skip ?_ | refine ac_exit ?_ | refine zT ?_ | refine zF ?_ | refine gO ?_ | refine zN1 (fun hlen => ?_))
    refine lo_frame (rfP br E) _ List.perm_append_comm (fun F' => ?_)
    refine zCallAll hp2 (List.Perm.refl _) ?_
    rintro _ _ ⟨rfl, rfl⟩
    refine ⟨.tup [.c (bytRow ql), .c (.lit (.int .i64 qe))], re_refl, ?_⟩
    refine al_wk (wk_perm List.perm_append_comm) ?_
    repeat (first | refine ac_seq ?_ | refine ac_block ?_ | refine ac_region ?_ | refine ac_skip ?_ | refine ac_exit ?_ | refine zT ?_ | refine zF ?_ | refine gO ?_ | refine zN1 (fun hlen => ?_))
    refine zCall hq ?_
    rintro _ rfl
    repeat (first | refine ac_seq ?_ | refine ac_block ?_ | refine ac_region ?_ | refine ac_skip ?_ | refine ac_exit ?_ | refine zT ?_ | refine zF ?_ | refine gO ?_ | refine zN1 (fun hlen => ?_))
    exact ⟨⟨E, hD⟩, x_wk ⟨congrArg (fun z => AV.c (T.lit (Value.bool z))) e2, trivial⟩ rfl (by repeat (first | exact ag_refl | refine ag_upd rfl ?_ | refine ag_at rfl rfl ?_))⟩
  cases d5 : decide (ak = 4)
  rotate_left
  · have hp1 := freeL_ag b bp bn (E.map Prod.fst) hD al hbd2
    have hp2 := rfree_ag br E hD al hbd2
    have hpk := pok_free (l := al) hD
    generalize freeS al (E.map Prod.fst) = Q at *
    obtain ⟨qe, D'⟩ := Q
    dsimp only at hp1 hp2 hpk
    have e2 : decide (qe = qe) = true := decide_eq_true rfl
    repeat (first | refine ac_seq ?_ | refine ac_block ?_ | refine ac_region ?_ | refine ac_skip ?_ | refine zT ?_ | refine zF ?_ | refine gO ?_)
    refine ac_drawT [0, 0, 0, 2, 0, 0, 0, 2, 1, 1] (.fin [0, 1, 2, 4, 5, 6, 3, 7, 8, 9]) (by kernel_rfl) (by kernel_rfl) ?_
    refine wt_fin ?_
    refine gW ?_
    apply w_l; (focus exact rfl); (focus exact rfl); (first | (refine lo_frame (shP b bp bn (E.map Prod.fst)) _ (List.Perm.refl _) (fun F' => ?_); refine zCallG [0, 1, 2] hp1 ?_; rintro _ _ ⟨rfl, rfl⟩; refine ⟨_, _, re_refl, rfl, rfl, ?_⟩) | (refine lo_frame (shP b bp bn (E.map Prod.fst)) _ List.perm_append_comm (fun F' => ?_); refine zCallG [0, 1, 2] hp1 ?_; rintro _ _ ⟨rfl, rfl⟩; refine ⟨_, _, re_refl, rfl, rfl, ?_⟩))
    apply w_l; (focus exact rfl); (focus exact rfl); (refine lo_frame (rfP br E) _ List.perm_append_comm (fun F' => ?_); refine zCallAll hp2 (List.Perm.refl _) ?_; rintro _ _ ⟨E', hE', rfl, rfl⟩; refine ⟨_, re_refl, ?_⟩)
    refine gW ?_
    refine w_nil ?_
    refine ⟨⟨E', by rw [hE']; exact hpk⟩, ?_⟩
    first | (refine x_wk ⟨congrArg (fun z => AV.c (T.lit (Value.bool z))) e2, trivial⟩ ?_ (by repeat (first | exact ag_refl | refine ag_upd rfl ?_ | refine ag_at rfl rfl ?_)); dsimp only; first | (rw [hE']; done) | (rw [hE']; rfl)) | (refine Wk.trans (wk_perm List.perm_append_comm) ?_; refine x_wk ⟨congrArg (fun z => AV.c (T.lit (Value.bool z))) e2, trivial⟩ ?_ (by repeat (first | exact ag_refl | refine ag_upd rfl ?_ | refine ag_at rfl rfl ?_)); dsimp only; first | (rw [hE']; done) | (rw [hE']; rfl))
        
  repeat (first | refine ac_seq ?_ | refine ac_block ?_ | refine ac_region ?_ | refine ac_skip ?_ | refine ac_exit ?_ | refine zT ?_ | refine zF ?_ | refine gO ?_ | refine zN1 (fun hlen => ?_))
  exact ⟨⟨E, hD⟩, x_wk ⟨rfl, trivial⟩ rfl (by repeat (first | exact ag_refl | refine ag_upd rfl ?_ | refine ag_at rfl rfl ?_))⟩
end Go.Proofs.Ytdogdjcjmhogmaa
namespace Go.Proofs.Ytdogdjcjmhogmaa
open Go.ChangeShapes Go.WideShapes Go.ChangeAt Go.RowKit Go.Deep
section
variable {H : Type} {enc : TypeId × Value → H} {P : Program} {w : World} {base : Nat} {spare : Nat → Bool} {held : Bool}
theorem bulk_one (d : DataW H) : 1 ≤ Rows.uptoBulk d := by
  cases d with
  | lit l => cases l <;> simp [Rows.uptoBulk]
  | _ => simp [Rows.uptoBulk]
end
end Go.Proofs.Ytdogdjcjmhogmaa
