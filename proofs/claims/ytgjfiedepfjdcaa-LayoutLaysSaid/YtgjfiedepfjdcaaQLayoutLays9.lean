/-
  Texts of this proof, part 9: Jtd Jte.
-/
import Derived.Test.YtgjfiedepfjdcaaQLayoutLays8
import Derived.Laws.IdiomRangeMap
import Derived.Laws.Strings2
import Derived.WideKeyEntry
namespace Go.Proofs.Ytgjfiedepfjdcaa
open Go.RowKit
mutual
def Gn.done : Gn → Int → Prop
  | .mk _ _ _ a0 l, a => a0 = a ∧ Gn.dones l a
def Gn.dones : List Gn → Int → Prop
  | [], _ => True
  | x :: r, a => x.done (aft (Gn.nds r) a) ∧ Gn.dones r a
end
mutual
theorem Gn.set_done : ∀ (x : Gn) (a : Int), (x.set a).done a
  | .mk b p v a0 l, a => by
    rw [Gn.set]
    simp only [Gn.done]
    exact ⟨trivial, Gn.sets_done l a⟩
theorem Gn.sets_done : ∀ (l : List Gn) (a : Int), Gn.dones (Gn.sets l a) a
  | [], a => by simp [Gn.sets, Gn.dones]
  | x :: r, a => by
    rw [Gn.sets]
    simp only [Gn.dones]
    rw [(Gn.sets_same r a).1]
    exact ⟨Gn.set_done x _, Gn.sets_done r a⟩
end
theorem Gn.dones_drop : ∀ {l : List Gn} {m : Nat} {a : Int}, Gn.dones l a → Gn.dones (l.drop m) a
  | [], m, a, h => by rw [List.drop_nil]; exact h
  | x :: r, 0, a, h => h
  | x :: r, m + 1, a, h => by
    simp only [Gn.dones] at h
    exact Gn.dones_drop (l := r) (m := m) h.2
mutual
/-- how far the text goes -/
theorem lay_le : ∀ (x : Gn) (W a deep col : Int) (br : Bool), x.ok → 0 ≤ deep → deep + 200 * (x.cnt : Int) ≤ 3000000 → 0 ≤ col → 0 ≤ (x.nd.lay W a deep col br).2 ∧ (x.nd.lay W a deep col br).2 ≤ col + 3004000 * (x.cnt : Int) ∧ (x.nd.lay W a deep col br).1.size ≤ 3004001 * x.cnt
  | .mk b p v a0 l, W, a, deep, col, br, h, hd0, hd1, hc => by
    simp only [Gn.ok] at h
    obtain ⟨ho, _, hl⟩ := h
    have h1 := ho.sz
    have h2 := ho.n0
    have h3 := ho.n2
    rw [Gn.cnt] at *
    rw [Gn.nd]
    by_cases h5 : p.kind = 5
    · rw [if_pos h5, Nd.lay]
      have := lays_le l W a (deep + p.num) col (br && (decide (Nd.wides 0 (Gn.nds l) < 0) || decide (col + Nd.wides 0 (Gn.nds l) + a > W))) hl (by omega) (by omega) hc
      omega
    · rw [if_neg h5, Nd.lay]
      split
      · dsimp only; omega
      · split
        · dsimp only; rw [nlS_size]; omega
        · split
          · dsimp only
            have : (⟨#[32]⟩ : ByteArray).size = 1 := rfl
            omega
          · dsimp only
            have : (⟨#[]⟩ : ByteArray).size = 0 := rfl
            omega
theorem lays_le : ∀ (l : List Gn) (W a deep col : Int) (br : Bool), Gn.oks l → 0 ≤ deep → deep + 200 * (Gn.cnts l : Int) ≤ 3000000 → 0 ≤ col → 0 ≤ (Nd.lays W (Gn.nds l) a deep col br).2 ∧ (Nd.lays W (Gn.nds l) a deep col br).2 ≤ col + 3004000 * (Gn.cnts l : Int) ∧ (Nd.lays W (Gn.nds l) a deep col br).1.size ≤ 3004001 * Gn.cnts l
  | [], W, a, deep, col, br, _, _, _, hc => by
    rw [Gn.nds, Nd.lays, Gn.cnts]
    have : (⟨#[]⟩ : ByteArray).size = 0 := rfl
    dsimp only
    omega
  | x :: r, W, a, deep, col, br, h, hd0, hd1, hc => by
    simp only [Gn.oks] at h
    rw [Gn.cnts] at *
    have h1 := lay_le x W (aft (Gn.nds r) a) deep col br h.1 hd0 (by omega) hc
    have h2 := lays_le r W a deep (x.nd.lay W (aft (Gn.nds r) a) deep col br).2 br h.2 hd0 (by omega) h1.1
    rw [Gn.nds, Nd.lays]
    dsimp only
    rw [ByteArray.size_append]
    omega
end
theorem permE {c d e : Blk} {Q X R : List Blk} : (Q ++ (c :: d :: e :: (X ++ R))).Perm ((d :: e :: X) ++ (Q ++ (c :: R))) := by
  have := List.perm_append_comm_assoc (Q ++ [c]) (d :: e :: X) R
  simpa using this
theorem permF {c d e : Blk} {Q X R : List Blk} : (Q ++ (c :: d :: e :: (X ++ R))).Perm ((Q ++ (e :: X)) ++ (c :: d :: R)) := by
  have := (List.perm_append_comm_assoc [c, d] (e :: X) R).append_left Q
  simpa using this
theorem spc_succ (n : Nat) : spc ((n + 1 : Nat) : Int) = spc (n : Int) ++ ⟨#[32]⟩ := by
  unfold spc
  apply ByteArray.ext
  rw [ByteArray.data_append]
  show (List.replicate (((n + 1 : Nat) : Int)).toNat (32 : UInt8)).toArray = (List.replicate ((n : Int)).toNat (32 : UInt8)).toArray ++ #[32]
  rw [Int.toNat_natCast, Int.toNat_natCast, List.replicate_succ']
  apply Array.ext'
  rw [Array.toList_append]
theorem ba_app (a b c : ByteArray) : a ++ b ++ c = a ++ (b ++ c) := ByteArray.append_assoc
set_option maxRecDepth 100000 in
set_option maxHeartbeats 8000000 in
theorem laid_ag : ∀ (n : Nat), ∀ (l : List Gn) (v : Value) (a deep W col : Int) (br : Bool) (f : Bool) (ab : Nat) (vb : Value) (O : ByteArray), Gn.cnts l ≤ n → n ≤ 10000 → Gn.oks l → Gn.dones l a → 0 ≤ a → a + 4000 * (Gn.cnts l : Int) ≤ 80000000 → 0 ≤ deep → deep + 200 * (Gn.cnts l : Int) ≤ 3000000 → 1 ≤ W → W ≤ 200 → 0 ≤ col → col + 3004001 * (Gn.cnts l : Int) ≤ 60000000000 → O.size + 3004001 * Gn.cnts l ≤ 60000000000 → NilIf O.data.toList vb → AG Try.prog 15 [.own 2 v, .c (.lit (.int .i64 deep)), .c (.lit (.int .i64 W)), .c (.lit (.int .i64 col)), .c (.lit (.bool br)), .ptr 0 ab 0] (bB f ab vb O.data.toList ++ (.row v 63 1 l.length (l.map Gn.ptr) :: Gn.bls l)) (fun r hs => ∃ f2 v2, NilIf (O ++ (Nd.lays W (Gn.nds l) a deep col br).1).data.toList v2 ∧ r = .c (.lit (.int .i64 (Nd.lays W (Gn.nds l) a deep col br).2)) ∧ hs = bB f2 ab v2 (O ++ (Nd.lays W (Gn.nds l) a deep col br).1).data.toList ++ (.row v 63 1 l.length (l.map Gn.ptr) :: Gn.bls l))
  | n => by
    intro l v a deep W col br f ab vb O hcn hn hok hdo ha0 ha1 hd0 hd1 hW1 hW2 hc0 hc1 hO hnil
    have hih : ∀ m, m < n → ∀ (l : List Gn) (v : Value) (a deep W col : Int) (br : Bool) (f : Bool) (ab : Nat) (vb : Value) (O : ByteArray), Gn.cnts l ≤ m → m ≤ 10000 → Gn.oks l → Gn.dones l a → 0 ≤ a → a + 4000 * (Gn.cnts l : Int) ≤ 80000000 → 0 ≤ deep → deep + 200 * (Gn.cnts l : Int) ≤ 3000000 → 1 ≤ W → W ≤ 200 → 0 ≤ col → col + 3004001 * (Gn.cnts l : Int) ≤ 60000000000 → O.size + 3004001 * Gn.cnts l ≤ 60000000000 → NilIf O.data.toList vb → AG Try.prog 15 [.own 2 v, .c (.lit (.int .i64 deep)), .c (.lit (.int .i64 W)), .c (.lit (.int .i64 col)), .c (.lit (.bool br)), .ptr 0 ab 0] (bB f ab vb O.data.toList ++ (.row v 63 1 l.length (l.map Gn.ptr) :: Gn.bls l)) (fun r hs => ∃ f2 v2, NilIf (O ++ (Nd.lays W (Gn.nds l) a deep col br).1).data.toList v2 ∧ r = .c (.lit (.int .i64 (Nd.lays W (Gn.nds l) a deep col br).2)) ∧ hs = bB f2 ab v2 (O ++ (Nd.lays W (Gn.nds l) a deep col br).1).data.toList ++ (.row v 63 1 l.length (l.map Gn.ptr) :: Gn.bls l)) := fun m hm => laid_ag m
    have hlay := lays_le l W a deep col br hok hd0 (by omega) hc0
    refine ag_enter (3 + (Gn.bls l).length) tok Try.func15 Try.ntmps15 Try.results15 rfl (by kernel_rfl) rfl fun F => ?_
    repeat (first | refine gG ?_ | refine zN1 (fun hlen => ?_) | refine zN2 (fun hlen => ?_))
    refine x_loop [3, 14, 15, 18, 19, 20, 21, 22, 23, 24, 25, 26, 27, 28, 29, 30, 31, 32, 33, 34, 35, 36, 37, 38, 39, 40, 41, 42, 43, 44, 45, 46, 47, 48, 49, 50, 51, 52, 53, 54, 55, 56, 57, 58, 59, 60, 61, 62, 63, 64, 65, 66, 67, 68, 69, 70, 71, 72, 73, 74, 75, 76, 77, 78, 79, 80, 81, 82, 83, 84, 85, 86, 87, 88, 89, 90, 91, 92, 93, 94, 95, 96, 97, 98, 99, 100, 101, 102, 103, 104, 105, 106, 107, 108, 109, 110, 111, 112] (fun y : Nat × Bool × Value × ByteArray × Int => [(18, .c (.lit (.int .i64 (y.1 : Nat)))), (3, .c (.lit (.int .i64 y.2.2.2.2)))]) (fun y => bB y.2.1 ab y.2.2.1 (O ++ y.2.2.2.1).data.toList ++ (.row v 63 1 l.length (l.map Gn.ptr) :: Gn.bls l)) (fun y => y.1 ≤ l.length ∧ NilIf (O ++ y.2.2.2.1).data.toList y.2.2.1 ∧ 0 ≤ y.2.2.2.2 ∧ y.2.2.2.2 + 3004001 * (Gn.cnts (l.drop y.1) : Int) ≤ 60000000000 ∧ (O ++ y.2.2.2.1).size + 3004001 * Gn.cnts (l.drop y.1) ≤ 60000000000 ∧ Nd.lays W (Gn.nds l) a deep col br = (y.2.2.2.1 ++ (Nd.lays W (Gn.nds (l.drop y.1)) a deep y.2.2.2.2 br).1, (Nd.lays W (Gn.nds (l.drop y.1)) a deep y.2.2.2.2 br).2)) (fun y => l.length - y.1) (0, f, vb, ⟨#[]⟩, col) ⟨Nat.zero_le _, by rw [app_nilJ]; exact hnil, hc0, by rw [List.drop_zero]; omega, by rw [app_nilJ, List.drop_zero]; exact hO, by rw [List.drop_zero]; exact Prod.ext (by dsimp only; apply ByteArray.ext; simp [ByteArray.data_append]) rfl⟩ ⟨rfl, rfl, trivial⟩ (by dsimp only; rw [app_nilJ]) ?_
    rintro ⟨j, f1, v1, t, c⟩ ⟨hj, hn1, hcc0, hcc1, hO1, hinv⟩
    dsimp only at hj hn1 hcc0 hcc1 hO1 hinv ⊢
    repeat (first | refine gG ?_ | refine zN1 (fun hlen => ?_) | refine zN2 (fun hlen => ?_))
    refine x_cond rfl (fun h => ?_) (fun h => ?_)
    · have hj' : j < l.length := by simpa using h
      obtain ⟨x, hx⟩ := nth hj'
      have hcs := Gn.cnt_split hx
      have hd : l.drop j = x :: l.drop (j + 1) := drop_consG hx
      have hxo := Gn.oks_mem hok (List.mem_of_getElem? hx)
      have hxc := sum_memA (List.mem_of_getElem? hx)
      have hxd := Gn.dones_drop (m := j) hdo
      rw [hd] at hxd
      simp only [Gn.dones] at hxd
      have hod := Gn.oks_drop (m := j + 1) hok
      have hal := aft_le _ hod a ha0
      have hcd := Gn.cnts_drop_le l j
      have hat := Gn.ptr_at hx
      have hll := lay_le x W (aft (Gn.nds (l.drop (j + 1))) a) deep c br hxo hd0 (by omega) hcc0
      rw [hd, Gn.nds, Nd.lays] at hinv
      have hxd1 := hxd.1
      rw [hcs] at hcc1 hO1
      generalize aft (Gn.nds (l.drop (j + 1))) a = a' at *
      have hperm : (bB f1 ab v1 (O ++ t).data.toList ++ (.row v 63 1 l.length (l.map Gn.ptr) :: Gn.bls l)).Perm (bB f1 ab v1 (O ++ t).data.toList ++ (.row v 63 1 l.length (l.map Gn.ptr) :: (x.bl ++ Gn.rest l j))) := List.Perm.append_left _ ((Gn.pull hx).cons _)
      have hback : ∀ (f : Bool) (v : Value) (o : List UInt8) (v0 : Value), (bB f ab v o ++ (.row v0 63 1 l.length (l.map Gn.ptr) :: (x.bl ++ Gn.rest l j))).Perm (bB f ab v o ++ (.row v0 63 1 l.length (l.map Gn.ptr) :: Gn.bls l)) := fun f v o v0 => List.Perm.append_left _ ((Gn.pull hx).symm.cons _)
      have hwide := wide_ag n x (by omega) hn hxo
      have hwl := Gn.wide_le x hxo
      refine x_perm hperm ?_
      clear hperm h hxd hod hdo
      obtain ⟨b, p, v', a0, l'⟩ := x
      simp only [Gn.done] at hxd1
      obtain ⟨rfl, hdl⟩ := hxd1
      rw [Gn.cnt] at *
      simp only [Gn.ok] at hxo
      obtain ⟨hop, hleaf, hol⟩ := hxo
      have hsz := hop.sz
      have hn0 := hop.n0
      have hn2 := hop.n2
      have k1 := hop.k1
      have k6 := hop.k6
      rw [Gn.nd] at *
      rw [Gn.addr] at hwide
      rw [Gn.bl] at *
      obtain ⟨ka, nu, s⟩ := p
      dsimp only at hsz hn0 hn2 k1 k6 hleaf
      generalize Gn.rest l j = R at *
      clear hop hx hd
      repeat (first | refine gG ?_ | refine zN1 (fun hlen => ?_) | refine zN2 (fun hlen => ?_))
      refine zIxo j hj' ?_
      repeat (first | refine gG ?_ | refine zN1 (fun hlen => ?_) | refine zN2 (fun hlen => ?_))
      refine lo_asp 3 (zElo1 hat ⟨b, 0, rfl, ?_⟩)
      repeat (first | refine gG ?_ | refine zN1 (fun hlen => ?_) | refine zN2 (fun hlen => ?_))
      by_cases h1 : ka = 1
      · have fk1 : decide (ka = 1) = true := decide_eq_true h1
        rw [if_neg (show ¬ (⟨ka, nu, s⟩ : Lp).kind = 5 from fun e => by dsimp only at e; omega), Nd.lay, if_pos (show (⟨ka, nu, s⟩ : Lp).kind = 1 from h1)] at hinv
        replace hinv := fun _ : Unit => hinv
        have hwr := writeString_ag f1 ab v1 (O ++ t).data.toList s (by rw [dl_size]; omega) hn1
        repeat (first | refine gG ?_ | refine zN1 (fun hlen => ?_) | refine zN2 (fun hlen => ?_))
        refine lo_frame (bB f1 ab v1 (O ++ t).data.toList) (.row v 63 1 l.length (l.map Gn.ptr) :: .box b 65 [.c (.lit (.int .i64 ka)), .c (.lit (.int .i64 nu)), .c (.lit (.string s)), .own 1 v', .c (.lit (.int .i64 a0))] :: .row v' 63 1 l'.length (l'.map Gn.ptr) :: (Gn.bls l' ++ R)) (List.Perm.refl _) (fun F' => ?_)
        refine zCallAll hwr (List.Perm.refl _) ?_
        rintro _ _ ⟨v2, hv2, rfl, rfl⟩
        refine ⟨_, re_refl, ?_⟩
        repeat (first | refine gG ?_ | refine zN1 (fun hlen => ?_) | refine zN2 (fun hlen => ?_))
        refine lo_add rfl rfl (r := c + ((s.size : Nat) : Int)) (by show IntKind.wrap .i64 (c + ((s.size : Nat) : Int)) = c + ((s.size : Nat) : Int); rw [IntWalk.i64_in _ (by omega)]) ?_
        repeat (first | refine gO ?_ | refine zN1 (fun hlen => ?_) | refine zN2 (fun hlen => ?_))
        refine x_perm (hback true v2 _ v) ?_
        have e : (O ++ t).data.toList ++ s.data.toList = (O ++ (t ++ s)).data.toList := by rw [← dl_app, ba_app]
        rw [e] at hv2
        repeat (first | refine gG ?_ | refine zN1 (fun hlen => ?_) | refine zN2 (fun hlen => ?_))
        exact ⟨(j + 1, true, v2, t ++ s, c + ((s.size : Nat) : Int)), ⟨hj', hv2, by dsimp only; omega, by dsimp only; omega, by dsimp only; rw [← ba_app, ByteArray.size_append]; omega, by rw [hinv ()]; dsimp only; rw [ba_app]⟩, by dsimp only; omega, x_wk ⟨rfl, rfl, trivial⟩ (by dsimp only; rw [← e]) (by repeat (first | exact ag_refl | refine ag_upd rfl ?_ | refine ag_at rfl rfl ?_))⟩
      · have fk1 : decide (ka = 1) = false := decide_eq_false h1
        by_cases h5 : ka = 5
        · have fk5 : decide (ka = 5) = true := decide_eq_true h5
          rw [if_pos (show (⟨ka, nu, s⟩ : Lp).kind = 5 from h5)] at hinv hwide hwl hll
          rw [Nd.lay] at hinv hll
          rw [Nd.wide] at hwide hwl
          dsimp only at hinv hll
          generalize Nd.wides 0 (Gn.nds l') = ww at *
          replace hinv := fun _ : Unit => hinv
          repeat (first | refine gG ?_ | refine zN1 (fun hlen => ?_) | refine zN2 (fun hlen => ?_))
          refine lo_frame (.box b 65 [.c (.lit (.int .i64 ka)), .c (.lit (.int .i64 nu)), .c (.lit (.string s)), .own 1 v', .c (.lit (.int .i64 a0))] :: .row v' 63 1 l'.length (l'.map Gn.ptr) :: Gn.bls l') (bB f1 ab v1 (O ++ t).data.toList ++ (.row v 63 1 l.length (l.map Gn.ptr) :: R)) permE (fun F' => ?_)
          refine zCallAll hwide (List.Perm.refl _) ?_
          rintro _ _ ⟨rfl, rfl⟩
          refine ⟨_, re_refl, ?_⟩
          repeat (first | refine gO ?_ | refine zN1 (fun hlen => ?_) | refine zN2 (fun hlen => ?_))
          refine x_perm permE.symm ?_
          replace hinv := hinv ()
          cases br with
          | false =>
          have hbv : (false && (decide (ww < 0) || decide (c + ww + a0 > W))) = false := rfl
          rw [hbv] at hinv hll
          have hrec := hih (Gn.cnts l') (by omega) l' v' a0 (deep + nu) W c false f1 ab v1 (O ++ t) (Nat.le_refl _) (by omega) hol hdl hal.1 (by omega) (by omega) (by omega) hW1 hW2 hcc0 (by omega) (by omega) hn1
          replace hinv := fun _ : Unit => hinv
          refine ac_drawB [0, 1, 3, 7, 0, 0, 32, 96, 224, 480, 1008, 0, 0, 0, 8192, 24576, 57344, 122880, 253952, 253952, 1040384, 253952, 2351104, 6545408, 14934016, 33546240, 253952, 134209536, 268427264, 536862720, 0, 2147483647, 4294967295] [1, 1, 1, 1, 1, 1, 1, 1, 1, 1, 1, 1, 1, 1, 1, 1, 1, 1, 1, 1, 1, 1, 1, 1, 1, 1, 1, 1, 1, 1, 1, 2, 1] [0, 1, 2, 3, 4, 5, 6, 7, 8, 9, 10, 11, 12, 13, 14, 15, 16, 17, 18, 19, 20, 21, 22, 23, 24, 25, 26, 27, 28, 29, 30, 31, 32] (by kernel_rfl) (by kernel_rfl) ?_
          refine gW ?_
          apply w_q; (focus exact rfl); (focus exact rfl); focus (intro _; (refine lo_add rfl rfl (r := deep + nu) (by show IntKind.wrap .i64 (deep + nu) = deep + nu; rw [IntWalk.i64_in _ (by omega)]) ?_); exact det_refl)
          refine gW ?_
          apply w_l; (focus exact rfl); (focus exact rfl); (refine lo_frame (bB f1 ab v1 (O ++ t).data.toList ++ (.row v' 63 1 l'.length (l'.map Gn.ptr) :: Gn.bls l')) (.row v 63 1 l.length (l.map Gn.ptr) :: .box b 65 [.c (.lit (.int .i64 ka)), .c (.lit (.int .i64 nu)), .c (.lit (.string s)), .own 1 v', .c (.lit (.int .i64 a0))] :: R) permF (fun F' => ?_); refine zCallAll hrec (List.Perm.refl _) ?_; rintro _ _ ⟨f2, v2, hv2, rfl, rfl⟩; refine ⟨_, re_refl, ?_⟩)
          refine gW ?_
          refine w_nil ?_
          generalize hy : Nd.lays W (Gn.nds l') a0 (deep + nu) c false = y at *
          obtain ⟨yt, yc⟩ := y
          dsimp only at hv2 hll
          repeat (first | refine gO ?_ | refine zN1 (fun hlen => ?_) | refine zN2 (fun hlen => ?_))
          refine x_perm (permF.symm.trans (hback f2 v2 _ v)) ?_
          repeat (first | refine gG ?_ | refine zN1 (fun hlen => ?_) | refine zN2 (fun hlen => ?_))
          exact ⟨(j + 1, f2, v2, t ++ yt, yc), ⟨hj', by dsimp only; rw [← ba_app]; exact hv2, hll.1, by dsimp only; omega, by dsimp only; rw [← ba_app, ByteArray.size_append]; omega, by rw [hinv ()]; dsimp only; rw [ba_app]⟩, by dsimp only; omega, x_wk ⟨rfl, rfl, trivial⟩ (by dsimp only; rw [← ba_app]) (by repeat (first | exact ag_refl | refine ag_upd rfl ?_ | refine ag_at rfl rfl ?_))⟩
          | true =>
          by_cases hneg : ww < 0
          · have g1 : decide (ww < 0) = true := decide_eq_true hneg
            have hbv : (true && (decide (ww < 0) || decide (c + ww + a0 > W))) = true := by rw [g1]; rfl
            rw [hbv] at hinv hll
            have hrec := hih (Gn.cnts l') (by omega) l' v' a0 (deep + nu) W c true f1 ab v1 (O ++ t) (Nat.le_refl _) (by omega) hol hdl hal.1 (by omega) (by omega) (by omega) hW1 hW2 hcc0 (by omega) (by omega) hn1
            replace hinv := fun _ : Unit => hinv
            refine ac_drawB [0, 1, 3, 7, 0, 0, 32, 96, 224, 480, 1008, 0, 0, 0, 8192, 24576, 57344, 122880, 253952, 253952, 1040384, 253952, 2351104, 6545408, 14934016, 33546240, 253952, 134209536, 268427264, 536862720, 0, 2147483647, 4294967295] [1, 1, 1, 1, 1, 1, 1, 1, 1, 1, 1, 1, 1, 1, 1, 1, 1, 1, 1, 1, 1, 1, 1, 1, 1, 1, 1, 1, 1, 1, 1, 2, 1] [0, 1, 2, 3, 4, 5, 6, 7, 8, 9, 10, 11, 12, 13, 14, 15, 16, 17, 18, 19, 20, 21, 22, 23, 24, 25, 26, 27, 28, 29, 30, 31, 32] (by kernel_rfl) (by kernel_rfl) ?_
            refine gW ?_
            apply w_q; (focus exact rfl); (focus exact rfl); focus (intro _; (refine lo_add rfl rfl (r := deep + nu) (by show IntKind.wrap .i64 (deep + nu) = deep + nu; rw [IntWalk.i64_in _ (by omega)]) ?_); exact det_refl)
            refine gW ?_
            apply w_l; (focus exact rfl); (focus exact rfl); (refine lo_frame (bB f1 ab v1 (O ++ t).data.toList ++ (.row v' 63 1 l'.length (l'.map Gn.ptr) :: Gn.bls l')) (.row v 63 1 l.length (l.map Gn.ptr) :: .box b 65 [.c (.lit (.int .i64 ka)), .c (.lit (.int .i64 nu)), .c (.lit (.string s)), .own 1 v', .c (.lit (.int .i64 a0))] :: R) permF (fun F' => ?_); refine zCallAll hrec (List.Perm.refl _) ?_; rintro _ _ ⟨f2, v2, hv2, rfl, rfl⟩; refine ⟨_, re_refl, ?_⟩)
            refine gW ?_
            refine w_nil ?_
            generalize hy : Nd.lays W (Gn.nds l') a0 (deep + nu) c true = y at *
            obtain ⟨yt, yc⟩ := y
            dsimp only at hv2 hll
            repeat (first | refine gO ?_ | refine zN1 (fun hlen => ?_) | refine zN2 (fun hlen => ?_))
            refine x_perm (permF.symm.trans (hback f2 v2 _ v)) ?_
            repeat (first | refine gG ?_ | refine zN1 (fun hlen => ?_) | refine zN2 (fun hlen => ?_))
            exact ⟨(j + 1, f2, v2, t ++ yt, yc), ⟨hj', by dsimp only; rw [← ba_app]; exact hv2, hll.1, by dsimp only; omega, by dsimp only; rw [← ba_app, ByteArray.size_append]; omega, by rw [hinv ()]; dsimp only; rw [ba_app]⟩, by dsimp only; omega, x_wk ⟨rfl, rfl, trivial⟩ (by dsimp only; rw [← ba_app]) (by repeat (first | exact ag_refl | refine ag_upd rfl ?_ | refine ag_at rfl rfl ?_))⟩
          · have g1 : decide (ww < 0) = false := decide_eq_false hneg
            have hbv : (true && (decide (ww < 0) || decide (c + ww + a0 > W))) = decide (c + ww + a0 > W) := by rw [g1]; rfl
            rw [hbv] at hinv hll
            have hrec := hih (Gn.cnts l') (by omega) l' v' a0 (deep + nu) W c (decide (c + ww + a0 > W)) f1 ab v1 (O ++ t) (Nat.le_refl _) (by omega) hol hdl hal.1 (by omega) (by omega) (by omega) hW1 hW2 hcc0 (by omega) (by omega) hn1
            replace hinv := fun _ : Unit => hinv
            refine ac_drawB [0, 1, 3, 7, 0, 0, 32, 96, 224, 480, 1008, 0, 0, 0, 8192, 24576, 57344, 122880, 253952, 253952, 1040384, 253952, 2351104, 6545408, 14934016, 33546240, 253952, 134209536, 268427264, 536862720, 0, 2147483647, 4294967295] [1, 1, 1, 1, 1, 1, 1, 1, 1, 1, 1, 1, 1, 1, 1, 1, 1, 1, 1, 1, 1, 1, 1, 1, 1, 1, 1, 1, 1, 1, 1, 2, 1] [0, 1, 2, 3, 4, 5, 6, 7, 8, 9, 10, 11, 12, 13, 14, 15, 16, 17, 18, 19, 20, 21, 22, 23, 24, 25, 26, 27, 28, 29, 30, 31, 32] (by kernel_rfl) (by kernel_rfl) ?_
            refine gW ?_
            apply w_q; (focus exact rfl); (focus exact rfl); focus (intro _; (refine lo_add rfl rfl (r := deep + nu) (by show IntKind.wrap .i64 (deep + nu) = deep + nu; rw [IntWalk.i64_in _ (by omega)]) ?_); exact det_refl)
            refine gW ?_
            try (first | (apply w_un; (focus exact rfl); (focus exact rfl); (focus exact rfl); (focus exact rfl)) | (apply w_no; (focus exact rfl); (focus exact rfl); (focus exact rfl); (focus exact rfl); focus (first | rfl | assumption | exact neg_t (by assumption) | exact neg_f (by assumption))) | (apply w_qg; (focus exact rfl); (focus exact rfl); (focus exact rfl); (focus exact rfl); (focus (first | rfl | assumption | exact neg_t (by assumption) | exact neg_f (by assumption))); (focus (intro _; (refine lo_add rfl rfl (r := c + ww) (by show IntKind.wrap .i64 (c + ww) = c + ww; rw [IntWalk.i64_in _ (by omega)]) ?_); exact det_refl))))
            try refine gW ?_
            try (first | (apply w_un; (focus exact rfl); (focus exact rfl); (focus exact rfl); (focus exact rfl)) | (apply w_no; (focus exact rfl); (focus exact rfl); (focus exact rfl); (focus exact rfl); focus (first | rfl | assumption | exact neg_t (by assumption) | exact neg_f (by assumption))) | (apply w_qg; (focus exact rfl); (focus exact rfl); (focus exact rfl); (focus exact rfl); (focus (first | rfl | assumption | exact neg_t (by assumption) | exact neg_f (by assumption))); (focus (intro _; (refine lo_add rfl rfl (r := c + ww + a0) (by show IntKind.wrap .i64 (c + ww + a0) = c + ww + a0; rw [IntWalk.i64_in _ (by omega)]) ?_); exact det_refl))))
            try refine gW ?_
            apply w_l; (focus exact rfl); (focus exact rfl); (refine lo_frame (bB f1 ab v1 (O ++ t).data.toList ++ (.row v' 63 1 l'.length (l'.map Gn.ptr) :: Gn.bls l')) (.row v 63 1 l.length (l.map Gn.ptr) :: .box b 65 [.c (.lit (.int .i64 ka)), .c (.lit (.int .i64 nu)), .c (.lit (.string s)), .own 1 v', .c (.lit (.int .i64 a0))] :: R) permF (fun F' => ?_); refine zCallAll hrec (List.Perm.refl _) ?_; rintro _ _ ⟨f2, v2, hv2, rfl, rfl⟩; refine ⟨_, re_refl, ?_⟩)
            refine gW ?_
            refine w_nil ?_
            generalize hy : Nd.lays W (Gn.nds l') a0 (deep + nu) c (decide (c + ww + a0 > W)) = y at *
            obtain ⟨yt, yc⟩ := y
            dsimp only at hv2 hll
            repeat (first | refine gO ?_ | refine zN1 (fun hlen => ?_) | refine zN2 (fun hlen => ?_))
            refine x_perm (permF.symm.trans (hback f2 v2 _ v)) ?_
            repeat (first | refine gG ?_ | refine zN1 (fun hlen => ?_) | refine zN2 (fun hlen => ?_))
            exact ⟨(j + 1, f2, v2, t ++ yt, yc), ⟨hj', by dsimp only; rw [← ba_app]; exact hv2, hll.1, by dsimp only; omega, by dsimp only; rw [← ba_app, ByteArray.size_append]; omega, by rw [hinv ()]; dsimp only; rw [ba_app]⟩, by dsimp only; omega, x_wk ⟨rfl, rfl, trivial⟩ (by dsimp only; rw [← ba_app]) (by repeat (first | exact ag_refl | refine ag_upd rfl ?_ | refine ag_at rfl rfl ?_))⟩
        · have fk5 : decide (ka = 5) = false := decide_eq_false h5
          have lf : ¬ (⟨ka, nu, s⟩ : Lp).kind = 5 := h5
          have hk6 : ka ≠ 6 := (hleaf h5).2
          rw [if_neg lf, Nd.lay, if_neg (show ¬ (⟨ka, nu, s⟩ : Lp).kind = 1 from h1)] at hinv
          by_cases hnl : br = true ∨ ka = 4
          · rw [if_pos (show br = true ∨ (⟨ka, nu, s⟩ : Lp).kind = 4 from hnl)] at hinv
            replace hinv := fun _ : Unit => hinv
            have hb1 : (O ++ t).size + (⟨#[10]⟩ : ByteArray).size ≤ 140737488355328 := by
              have : (⟨#[10]⟩ : ByteArray).size = 1 := rfl
              omega
            have e0 : (O ++ t).data.toList ++ (⟨#[10]⟩ : ByteArray).data.toList = (O ++ (t ++ (⟨#[10]⟩ ++ spc ((0 : Nat) : Int)))).data.toList := by
              have h0 : spc ((0 : Nat) : Int) = ⟨#[]⟩ := rfl
              rw [h0, app_nilJ, ← dl_app, ba_app]
            by_cases h2 : ka = 2
            · have fk2 : decide (ka = 2) = true := decide_eq_true h2
              have hbt : br = true := hnl.resolve_right (by omega)
              subst hbt
              have hwr := writeString_ag f1 ab v1 (O ++ t).data.toList ⟨#[10]⟩ (by rw [dl_size]; exact hb1) hn1
              repeat (first | refine gG ?_ | refine zN1 (fun hlen => ?_) | refine zN2 (fun hlen => ?_))
              refine lo_frame (bB f1 ab v1 (O ++ t).data.toList) (.row v 63 1 l.length (l.map Gn.ptr) :: .box b 65 [.c (.lit (.int .i64 ka)), .c (.lit (.int .i64 nu)), .c (.lit (.string s)), .own 1 v', .c (.lit (.int .i64 a0))] :: .row v' 63 1 l'.length (l'.map Gn.ptr) :: (Gn.bls l' ++ R)) (List.Perm.refl _) (fun F' => ?_)
              refine zCallAll hwr (List.Perm.refl _) ?_
              rintro _ _ ⟨v2, hv2, rfl, rfl⟩
              refine ⟨_, re_refl, ?_⟩
              rw [e0] at hv2
              repeat (first | refine gG ?_ | refine zN1 (fun hlen => ?_) | refine zN2 (fun hlen => ?_))
              refine x_loop [96, 97, 98, 99, 100] (fun y : Nat × Value => [(96, .c (.lit (.int .i64 (y.1 : Nat))))]) (fun y => bB true ab y.2 (O ++ (t ++ (⟨#[10]⟩ ++ spc (y.1 : Nat)))).data.toList ++ (.row v 63 1 l.length (l.map Gn.ptr) :: .box b 65 [.c (.lit (.int .i64 ka)), .c (.lit (.int .i64 nu)), .c (.lit (.string s)), .own 1 v', .c (.lit (.int .i64 a0))] :: .row v' 63 1 l'.length (l'.map Gn.ptr) :: (Gn.bls l' ++ R))) (fun y => (y.1 : Int) ≤ deep ∧ NilIf (O ++ (t ++ (⟨#[10]⟩ ++ spc (y.1 : Nat)))).data.toList y.2) (fun y => deep.toNat - y.1) (0, v2) ⟨hd0, hv2⟩ ⟨rfl, trivial⟩ (by dsimp only; rw [← e0]) ?_
              rintro ⟨q, v3⟩ ⟨hq, hv3⟩
              dsimp only at hq hv3 ⊢
              repeat (first | refine gG ?_ | refine zN1 (fun hlen => ?_) | refine zN2 (fun hlen => ?_))
              refine x_cond rfl (fun h => ?_) (fun h => ?_)
              · have hq' : (q : Int) < deep := by simpa using h
                have hsz2 : (O ++ (t ++ (⟨#[10]⟩ ++ spc (q : Nat)))).size = (O ++ t).size + (1 + q) := by
                  have := nlS_size (q : Nat)
                  unfold nlS at this
                  rw [← ba_app, ByteArray.size_append (a := O ++ t), this, Int.toNat_natCast]
                have hwr2 := writeString_ag true ab v3 (O ++ (t ++ (⟨#[10]⟩ ++ spc (q : Nat)))).data.toList ⟨#[32]⟩ (by rw [dl_size, hsz2]; show _ + 1 ≤ _; omega) hv3
                have e2 : (O ++ (t ++ (⟨#[10]⟩ ++ spc (q : Nat)))).data.toList ++ (⟨#[32]⟩ : ByteArray).data.toList = (O ++ (t ++ (⟨#[10]⟩ ++ spc ((q + 1 : Nat) : Int)))).data.toList := by
                  rw [spc_succ, ← dl_app]
                  simp only [ba_app]
                clear h
                repeat (first | refine gG ?_ | refine zN1 (fun hlen => ?_) | refine zN2 (fun hlen => ?_))
                refine lo_frame (bB true ab v3 (O ++ (t ++ (⟨#[10]⟩ ++ spc (q : Nat)))).data.toList) (.row v 63 1 l.length (l.map Gn.ptr) :: .box b 65 [.c (.lit (.int .i64 ka)), .c (.lit (.int .i64 nu)), .c (.lit (.string s)), .own 1 v', .c (.lit (.int .i64 a0))] :: .row v' 63 1 l'.length (l'.map Gn.ptr) :: (Gn.bls l' ++ R)) (List.Perm.refl _) (fun F' => ?_)
                refine zCallAll hwr2 (List.Perm.refl _) ?_
                rintro _ _ ⟨v4, hv4, rfl, rfl⟩
                refine ⟨_, re_refl, ?_⟩
                rw [e2] at hv4
                repeat (first | refine gG ?_ | refine zN1 (fun hlen => ?_) | refine zN2 (fun hlen => ?_))
                exact ⟨(q + 1, v4), ⟨by dsimp only; omega, hv4⟩, by dsimp only; omega, x_wk ⟨rfl, trivial⟩ (by dsimp only; rw [← e2]) (by repeat (first | exact ag_refl | refine ag_upd rfl ?_ | refine ag_at rfl rfl ?_))⟩
              · have hq' : deep = (q : Int) := by
                  have : ¬ (q : Int) < deep := by simpa using h
                  omega
                have e3 : ⟨#[10]⟩ ++ spc (q : Nat) = nlS deep := by rw [hq']; rfl
                rw [e3] at hv3 ⊢
                clear h hq'
                repeat (first | refine gG ?_ | refine zN1 (fun hlen => ?_) | refine zN2 (fun hlen => ?_))
                exact ⟨(j + 1, true, v3, t ++ nlS deep, deep), ⟨hj', hv3, hd0, by dsimp only; omega, by dsimp only; rw [← ba_app, ByteArray.size_append (a := O ++ t), nlS_size]; omega, by rw [hinv ()]; dsimp only; rw [ba_app]⟩, by dsimp only; omega, Wk.trans (wk_perm (hback true v3 _ v)) (x_wk ⟨rfl, rfl, trivial⟩ rfl (by repeat (first | exact ag_refl | refine ag_upd rfl ?_ | refine ag_at rfl rfl ?_)))⟩
            · have fk2 : decide (ka = 2) = false := decide_eq_false h2
              by_cases h3 : ka = 3
              · have fk3 : decide (ka = 3) = true := decide_eq_true h3
                have hbt : br = true := hnl.resolve_right (by omega)
                subst hbt
                have hwr := writeString_ag f1 ab v1 (O ++ t).data.toList ⟨#[10]⟩ (by rw [dl_size]; exact hb1) hn1
                repeat (first | refine gG ?_ | refine zN1 (fun hlen => ?_) | refine zN2 (fun hlen => ?_))
                refine lo_frame (bB f1 ab v1 (O ++ t).data.toList) (.row v 63 1 l.length (l.map Gn.ptr) :: .box b 65 [.c (.lit (.int .i64 ka)), .c (.lit (.int .i64 nu)), .c (.lit (.string s)), .own 1 v', .c (.lit (.int .i64 a0))] :: .row v' 63 1 l'.length (l'.map Gn.ptr) :: (Gn.bls l' ++ R)) (List.Perm.refl _) (fun F' => ?_)
                refine zCallAll hwr (List.Perm.refl _) ?_
                rintro _ _ ⟨v2, hv2, rfl, rfl⟩
                refine ⟨_, re_refl, ?_⟩
                rw [e0] at hv2
                repeat (first | refine gG ?_ | refine zN1 (fun hlen => ?_) | refine zN2 (fun hlen => ?_))
                refine x_loop [96, 97, 98, 99, 100] (fun y : Nat × Value => [(96, .c (.lit (.int .i64 (y.1 : Nat))))]) (fun y => bB true ab y.2 (O ++ (t ++ (⟨#[10]⟩ ++ spc (y.1 : Nat)))).data.toList ++ (.row v 63 1 l.length (l.map Gn.ptr) :: .box b 65 [.c (.lit (.int .i64 ka)), .c (.lit (.int .i64 nu)), .c (.lit (.string s)), .own 1 v', .c (.lit (.int .i64 a0))] :: .row v' 63 1 l'.length (l'.map Gn.ptr) :: (Gn.bls l' ++ R))) (fun y => (y.1 : Int) ≤ deep ∧ NilIf (O ++ (t ++ (⟨#[10]⟩ ++ spc (y.1 : Nat)))).data.toList y.2) (fun y => deep.toNat - y.1) (0, v2) ⟨hd0, hv2⟩ ⟨rfl, trivial⟩ (by dsimp only; rw [← e0]) ?_
                rintro ⟨q, v3⟩ ⟨hq, hv3⟩
                dsimp only at hq hv3 ⊢
                repeat (first | refine gG ?_ | refine zN1 (fun hlen => ?_) | refine zN2 (fun hlen => ?_))
                refine x_cond rfl (fun h => ?_) (fun h => ?_)
                · have hq' : (q : Int) < deep := by simpa using h
                  have hsz2 : (O ++ (t ++ (⟨#[10]⟩ ++ spc (q : Nat)))).size = (O ++ t).size + (1 + q) := by
                    have := nlS_size (q : Nat)
                    unfold nlS at this
                    rw [← ba_app, ByteArray.size_append (a := O ++ t), this, Int.toNat_natCast]
                  have hwr2 := writeString_ag true ab v3 (O ++ (t ++ (⟨#[10]⟩ ++ spc (q : Nat)))).data.toList ⟨#[32]⟩ (by rw [dl_size, hsz2]; show _ + 1 ≤ _; omega) hv3
                  have e2 : (O ++ (t ++ (⟨#[10]⟩ ++ spc (q : Nat)))).data.toList ++ (⟨#[32]⟩ : ByteArray).data.toList = (O ++ (t ++ (⟨#[10]⟩ ++ spc ((q + 1 : Nat) : Int)))).data.toList := by
                    rw [spc_succ, ← dl_app]
                    simp only [ba_app]
                  clear h
                  repeat (first | refine gG ?_ | refine zN1 (fun hlen => ?_) | refine zN2 (fun hlen => ?_))
                  refine lo_frame (bB true ab v3 (O ++ (t ++ (⟨#[10]⟩ ++ spc (q : Nat)))).data.toList) (.row v 63 1 l.length (l.map Gn.ptr) :: .box b 65 [.c (.lit (.int .i64 ka)), .c (.lit (.int .i64 nu)), .c (.lit (.string s)), .own 1 v', .c (.lit (.int .i64 a0))] :: .row v' 63 1 l'.length (l'.map Gn.ptr) :: (Gn.bls l' ++ R)) (List.Perm.refl _) (fun F' => ?_)
                  refine zCallAll hwr2 (List.Perm.refl _) ?_
                  rintro _ _ ⟨v4, hv4, rfl, rfl⟩
                  refine ⟨_, re_refl, ?_⟩
                  rw [e2] at hv4
                  repeat (first | refine gG ?_ | refine zN1 (fun hlen => ?_) | refine zN2 (fun hlen => ?_))
                  exact ⟨(q + 1, v4), ⟨by dsimp only; omega, hv4⟩, by dsimp only; omega, x_wk ⟨rfl, trivial⟩ (by dsimp only; rw [← e2]) (by repeat (first | exact ag_refl | refine ag_upd rfl ?_ | refine ag_at rfl rfl ?_))⟩
                · have hq' : deep = (q : Int) := by
                    have : ¬ (q : Int) < deep := by simpa using h
                    omega
                  have e3 : ⟨#[10]⟩ ++ spc (q : Nat) = nlS deep := by rw [hq']; rfl
                  rw [e3] at hv3 ⊢
                  clear h hq'
                  repeat (first | refine gG ?_ | refine zN1 (fun hlen => ?_) | refine zN2 (fun hlen => ?_))
                  exact ⟨(j + 1, true, v3, t ++ nlS deep, deep), ⟨hj', hv3, hd0, by dsimp only; omega, by dsimp only; rw [← ba_app, ByteArray.size_append (a := O ++ t), nlS_size]; omega, by rw [hinv ()]; dsimp only; rw [ba_app]⟩, by dsimp only; omega, Wk.trans (wk_perm (hback true v3 _ v)) (x_wk ⟨rfl, rfl, trivial⟩ rfl (by repeat (first | exact ag_refl | refine ag_upd rfl ?_ | refine ag_at rfl rfl ?_)))⟩
              · have fk3 : decide (ka = 3) = false := decide_eq_false h3
                have fk4 : decide (ka = 4) = true := decide_eq_true (by omega)
                cases br with
                | true =>
                  have hwr := writeString_ag f1 ab v1 (O ++ t).data.toList ⟨#[10]⟩ (by rw [dl_size]; exact hb1) hn1
                  repeat (first | refine gG ?_ | refine zN1 (fun hlen => ?_) | refine zN2 (fun hlen => ?_))
                  refine lo_frame (bB f1 ab v1 (O ++ t).data.toList) (.row v 63 1 l.length (l.map Gn.ptr) :: .box b 65 [.c (.lit (.int .i64 ka)), .c (.lit (.int .i64 nu)), .c (.lit (.string s)), .own 1 v', .c (.lit (.int .i64 a0))] :: .row v' 63 1 l'.length (l'.map Gn.ptr) :: (Gn.bls l' ++ R)) (List.Perm.refl _) (fun F' => ?_)
                  refine zCallAll hwr (List.Perm.refl _) ?_
                  rintro _ _ ⟨v2, hv2, rfl, rfl⟩
                  refine ⟨_, re_refl, ?_⟩
                  rw [e0] at hv2
                  repeat (first | refine gG ?_ | refine zN1 (fun hlen => ?_) | refine zN2 (fun hlen => ?_))
                  refine x_loop [96, 97, 98, 99, 100] (fun y : Nat × Value => [(96, .c (.lit (.int .i64 (y.1 : Nat))))]) (fun y => bB true ab y.2 (O ++ (t ++ (⟨#[10]⟩ ++ spc (y.1 : Nat)))).data.toList ++ (.row v 63 1 l.length (l.map Gn.ptr) :: .box b 65 [.c (.lit (.int .i64 ka)), .c (.lit (.int .i64 nu)), .c (.lit (.string s)), .own 1 v', .c (.lit (.int .i64 a0))] :: .row v' 63 1 l'.length (l'.map Gn.ptr) :: (Gn.bls l' ++ R))) (fun y => (y.1 : Int) ≤ deep ∧ NilIf (O ++ (t ++ (⟨#[10]⟩ ++ spc (y.1 : Nat)))).data.toList y.2) (fun y => deep.toNat - y.1) (0, v2) ⟨hd0, hv2⟩ ⟨rfl, trivial⟩ (by dsimp only; rw [← e0]) ?_
                  rintro ⟨q, v3⟩ ⟨hq, hv3⟩
                  dsimp only at hq hv3 ⊢
                  repeat (first | refine gG ?_ | refine zN1 (fun hlen => ?_) | refine zN2 (fun hlen => ?_))
                  refine x_cond rfl (fun h => ?_) (fun h => ?_)
                  · have hq' : (q : Int) < deep := by simpa using h
                    have hsz2 : (O ++ (t ++ (⟨#[10]⟩ ++ spc (q : Nat)))).size = (O ++ t).size + (1 + q) := by
                      have := nlS_size (q : Nat)
                      unfold nlS at this
                      rw [← ba_app, ByteArray.size_append (a := O ++ t), this, Int.toNat_natCast]
                    have hwr2 := writeString_ag true ab v3 (O ++ (t ++ (⟨#[10]⟩ ++ spc (q : Nat)))).data.toList ⟨#[32]⟩ (by rw [dl_size, hsz2]; show _ + 1 ≤ _; omega) hv3
                    have e2 : (O ++ (t ++ (⟨#[10]⟩ ++ spc (q : Nat)))).data.toList ++ (⟨#[32]⟩ : ByteArray).data.toList = (O ++ (t ++ (⟨#[10]⟩ ++ spc ((q + 1 : Nat) : Int)))).data.toList := by
                      rw [spc_succ, ← dl_app]
                      simp only [ba_app]
                    clear h
                    repeat (first | refine gG ?_ | refine zN1 (fun hlen => ?_) | refine zN2 (fun hlen => ?_))
                    refine lo_frame (bB true ab v3 (O ++ (t ++ (⟨#[10]⟩ ++ spc (q : Nat)))).data.toList) (.row v 63 1 l.length (l.map Gn.ptr) :: .box b 65 [.c (.lit (.int .i64 ka)), .c (.lit (.int .i64 nu)), .c (.lit (.string s)), .own 1 v', .c (.lit (.int .i64 a0))] :: .row v' 63 1 l'.length (l'.map Gn.ptr) :: (Gn.bls l' ++ R)) (List.Perm.refl _) (fun F' => ?_)
                    refine zCallAll hwr2 (List.Perm.refl _) ?_
                    rintro _ _ ⟨v4, hv4, rfl, rfl⟩
                    refine ⟨_, re_refl, ?_⟩
                    rw [e2] at hv4
                    repeat (first | refine gG ?_ | refine zN1 (fun hlen => ?_) | refine zN2 (fun hlen => ?_))
                    exact ⟨(q + 1, v4), ⟨by dsimp only; omega, hv4⟩, by dsimp only; omega, x_wk ⟨rfl, trivial⟩ (by dsimp only; rw [← e2]) (by repeat (first | exact ag_refl | refine ag_upd rfl ?_ | refine ag_at rfl rfl ?_))⟩
                  · have hq' : deep = (q : Int) := by
                      have : ¬ (q : Int) < deep := by simpa using h
                      omega
                    have e3 : ⟨#[10]⟩ ++ spc (q : Nat) = nlS deep := by rw [hq']; rfl
                    rw [e3] at hv3 ⊢
                    clear h hq'
                    repeat (first | refine gG ?_ | refine zN1 (fun hlen => ?_) | refine zN2 (fun hlen => ?_))
                    exact ⟨(j + 1, true, v3, t ++ nlS deep, deep), ⟨hj', hv3, hd0, by dsimp only; omega, by dsimp only; rw [← ba_app, ByteArray.size_append (a := O ++ t), nlS_size]; omega, by rw [hinv ()]; dsimp only; rw [ba_app]⟩, by dsimp only; omega, Wk.trans (wk_perm (hback true v3 _ v)) (x_wk ⟨rfl, rfl, trivial⟩ rfl (by repeat (first | exact ag_refl | refine ag_upd rfl ?_ | refine ag_at rfl rfl ?_)))⟩
                | false =>
                  have hwr := writeString_ag f1 ab v1 (O ++ t).data.toList ⟨#[10]⟩ (by rw [dl_size]; exact hb1) hn1
                  repeat (first | refine gG ?_ | refine zN1 (fun hlen => ?_) | refine zN2 (fun hlen => ?_))
                  refine lo_frame (bB f1 ab v1 (O ++ t).data.toList) (.row v 63 1 l.length (l.map Gn.ptr) :: .box b 65 [.c (.lit (.int .i64 ka)), .c (.lit (.int .i64 nu)), .c (.lit (.string s)), .own 1 v', .c (.lit (.int .i64 a0))] :: .row v' 63 1 l'.length (l'.map Gn.ptr) :: (Gn.bls l' ++ R)) (List.Perm.refl _) (fun F' => ?_)
                  refine zCallAll hwr (List.Perm.refl _) ?_
                  rintro _ _ ⟨v2, hv2, rfl, rfl⟩
                  refine ⟨_, re_refl, ?_⟩
                  rw [e0] at hv2
                  repeat (first | refine gG ?_ | refine zN1 (fun hlen => ?_) | refine zN2 (fun hlen => ?_))
                  refine x_loop [96, 97, 98, 99, 100] (fun y : Nat × Value => [(96, .c (.lit (.int .i64 (y.1 : Nat))))]) (fun y => bB true ab y.2 (O ++ (t ++ (⟨#[10]⟩ ++ spc (y.1 : Nat)))).data.toList ++ (.row v 63 1 l.length (l.map Gn.ptr) :: .box b 65 [.c (.lit (.int .i64 ka)), .c (.lit (.int .i64 nu)), .c (.lit (.string s)), .own 1 v', .c (.lit (.int .i64 a0))] :: .row v' 63 1 l'.length (l'.map Gn.ptr) :: (Gn.bls l' ++ R))) (fun y => (y.1 : Int) ≤ deep ∧ NilIf (O ++ (t ++ (⟨#[10]⟩ ++ spc (y.1 : Nat)))).data.toList y.2) (fun y => deep.toNat - y.1) (0, v2) ⟨hd0, hv2⟩ ⟨rfl, trivial⟩ (by dsimp only; rw [← e0]) ?_
                  rintro ⟨q, v3⟩ ⟨hq, hv3⟩
                  dsimp only at hq hv3 ⊢
                  repeat (first | refine gG ?_ | refine zN1 (fun hlen => ?_) | refine zN2 (fun hlen => ?_))
                  refine x_cond rfl (fun h => ?_) (fun h => ?_)
                  · have hq' : (q : Int) < deep := by simpa using h
                    have hsz2 : (O ++ (t ++ (⟨#[10]⟩ ++ spc (q : Nat)))).size = (O ++ t).size + (1 + q) := by
                      have := nlS_size (q : Nat)
                      unfold nlS at this
                      rw [← ba_app, ByteArray.size_append (a := O ++ t), this, Int.toNat_natCast]
                    have hwr2 := writeString_ag true ab v3 (O ++ (t ++ (⟨#[10]⟩ ++ spc (q : Nat)))).data.toList ⟨#[32]⟩ (by rw [dl_size, hsz2]; show _ + 1 ≤ _; omega) hv3
                    have e2 : (O ++ (t ++ (⟨#[10]⟩ ++ spc (q : Nat)))).data.toList ++ (⟨#[32]⟩ : ByteArray).data.toList = (O ++ (t ++ (⟨#[10]⟩ ++ spc ((q + 1 : Nat) : Int)))).data.toList := by
                      rw [spc_succ, ← dl_app]
                      simp only [ba_app]
                    clear h
                    repeat (first | refine gG ?_ | refine zN1 (fun hlen => ?_) | refine zN2 (fun hlen => ?_))
                    refine lo_frame (bB true ab v3 (O ++ (t ++ (⟨#[10]⟩ ++ spc (q : Nat)))).data.toList) (.row v 63 1 l.length (l.map Gn.ptr) :: .box b 65 [.c (.lit (.int .i64 ka)), .c (.lit (.int .i64 nu)), .c (.lit (.string s)), .own 1 v', .c (.lit (.int .i64 a0))] :: .row v' 63 1 l'.length (l'.map Gn.ptr) :: (Gn.bls l' ++ R)) (List.Perm.refl _) (fun F' => ?_)
                    refine zCallAll hwr2 (List.Perm.refl _) ?_
                    rintro _ _ ⟨v4, hv4, rfl, rfl⟩
                    refine ⟨_, re_refl, ?_⟩
                    rw [e2] at hv4
                    repeat (first | refine gG ?_ | refine zN1 (fun hlen => ?_) | refine zN2 (fun hlen => ?_))
                    exact ⟨(q + 1, v4), ⟨by dsimp only; omega, hv4⟩, by dsimp only; omega, x_wk ⟨rfl, trivial⟩ (by dsimp only; rw [← e2]) (by repeat (first | exact ag_refl | refine ag_upd rfl ?_ | refine ag_at rfl rfl ?_))⟩
                  · have hq' : deep = (q : Int) := by
                      have : ¬ (q : Int) < deep := by simpa using h
                      omega
                    have e3 : ⟨#[10]⟩ ++ spc (q : Nat) = nlS deep := by rw [hq']; rfl
                    rw [e3] at hv3 ⊢
                    clear h hq'
                    repeat (first | refine gG ?_ | refine zN1 (fun hlen => ?_) | refine zN2 (fun hlen => ?_))
                    exact ⟨(j + 1, true, v3, t ++ nlS deep, deep), ⟨hj', hv3, hd0, by dsimp only; omega, by dsimp only; rw [← ba_app, ByteArray.size_append (a := O ++ t), nlS_size]; omega, by rw [hinv ()]; dsimp only; rw [ba_app]⟩, by dsimp only; omega, Wk.trans (wk_perm (hback true v3 _ v)) (x_wk ⟨rfl, rfl, trivial⟩ rfl (by repeat (first | exact ag_refl | refine ag_upd rfl ?_ | refine ag_at rfl rfl ?_)))⟩
          · rw [if_neg (show ¬ (br = true ∨ (⟨ka, nu, s⟩ : Lp).kind = 4) from hnl)] at hinv
            have hbf : br = false := by cases br; rfl; exact absurd (.inl rfl) hnl
            subst hbf
            have fk4 : decide (ka = 4) = false := decide_eq_false (fun e => hnl (.inr e))
            by_cases h2 : ka = 2
            · have fk2 : decide (ka = 2) = true := decide_eq_true h2
              rw [if_pos (show (⟨ka, nu, s⟩ : Lp).kind = 2 from h2)] at hinv
              replace hinv := fun _ : Unit => hinv
              have hb2 : (O ++ t).size + (⟨#[32]⟩ : ByteArray).size ≤ 140737488355328 := by
                have : (⟨#[32]⟩ : ByteArray).size = 1 := rfl
                omega
              have hwr := writeString_ag f1 ab v1 (O ++ t).data.toList ⟨#[32]⟩ (by rw [dl_size]; exact hb2) hn1
              repeat (first | refine gG ?_ | refine zN1 (fun hlen => ?_) | refine zN2 (fun hlen => ?_))
              refine lo_frame (bB f1 ab v1 (O ++ t).data.toList) (.row v 63 1 l.length (l.map Gn.ptr) :: .box b 65 [.c (.lit (.int .i64 ka)), .c (.lit (.int .i64 nu)), .c (.lit (.string s)), .own 1 v', .c (.lit (.int .i64 a0))] :: .row v' 63 1 l'.length (l'.map Gn.ptr) :: (Gn.bls l' ++ R)) (List.Perm.refl _) (fun F' => ?_)
              refine zCallAll hwr (List.Perm.refl _) ?_
              rintro _ _ ⟨v2, hv2, rfl, rfl⟩
              refine ⟨_, re_refl, ?_⟩
              repeat (first | refine gG ?_ | refine zN1 (fun hlen => ?_) | refine zN2 (fun hlen => ?_))
              refine lo_add rfl rfl (r := c + 1) (by show IntKind.wrap .i64 (c + 1) = c + 1; rw [IntWalk.i64_in _ (by omega)]) ?_
              repeat (first | refine gO ?_ | refine zN1 (fun hlen => ?_) | refine zN2 (fun hlen => ?_))
              refine x_perm (hback true v2 _ v) ?_
              have e : (O ++ t).data.toList ++ (⟨#[32]⟩ : ByteArray).data.toList = (O ++ (t ++ ⟨#[32]⟩)).data.toList := by rw [← dl_app, ba_app]
              rw [e] at hv2
              have hs1 : (O ++ (t ++ ⟨#[32]⟩)).size = (O ++ t).size + 1 := by rw [← ba_app, ByteArray.size_append (a := O ++ t)]; rfl
              repeat (first | refine gG ?_ | refine zN1 (fun hlen => ?_) | refine zN2 (fun hlen => ?_))
              exact ⟨(j + 1, true, v2, t ++ ⟨#[32]⟩, c + 1), ⟨hj', hv2, by dsimp only; omega, by dsimp only; omega, by dsimp only; rw [hs1]; omega, by rw [hinv ()]; dsimp only; rw [ba_app]⟩, by dsimp only; omega, x_wk ⟨rfl, rfl, trivial⟩ (by dsimp only; rw [← e]) (by repeat (first | exact ag_refl | refine ag_upd rfl ?_ | refine ag_at rfl rfl ?_))⟩
            · have fk2 : decide (ka = 2) = false := decide_eq_false h2
              have hk3 : ka = 3 := by
                have : ka ≠ 4 := fun e => hnl (.inr e)
                omega
              have fk3 : decide (ka = 3) = true := decide_eq_true hk3
              rw [if_neg (show ¬ (⟨ka, nu, s⟩ : Lp).kind = 2 from h2)] at hinv
              replace hinv := fun _ : Unit => hinv
              repeat (first | refine gG ?_ | refine zN1 (fun hlen => ?_) | refine zN2 (fun hlen => ?_))
              exact ⟨(j + 1, f1, v1, t ++ ⟨#[]⟩, c), ⟨hj', by dsimp only; rw [app_nilJ]; exact hn1, hcc0, by dsimp only; omega, by dsimp only; rw [app_nilJ]; omega, by rw [hinv ()]; dsimp only; rw [ba_app]⟩, by dsimp only; omega, Wk.trans (wk_perm (hback f1 v1 _ v)) (x_wk ⟨rfl, rfl, trivial⟩ (by dsimp only; rw [app_nilJ]) (by repeat (first | exact ag_refl | refine ag_upd rfl ?_ | refine ag_at rfl rfl ?_)))⟩
    · have hj' : j = l.length := by
        have : ¬ j < l.length := by simpa using h
        omega
      subst hj'
      rw [List.drop_length, Gn.nds, Nd.lays] at hinv
      dsimp only at hinv
      rw [app_nilJ] at hinv
      rw [hinv]
      clear h hih
      repeat (first | refine gG ?_ | refine zN1 (fun hlen => ?_) | refine zN2 (fun hlen => ?_))
      refine zGS (hq := bB f1 ab v1 (O ++ t).data.toList ++ (.row v 63 1 l.length (l.map Gn.ptr) :: Gn.bls l)) (List.take_of_length_le (by simp only [bB, List.length_cons, List.length_append, List.length_nil]; omega)) ⟨f1, v1, hn1, rfl, rfl⟩
end Go.Proofs.Ytgjfiedepfjdcaa
namespace Go.Proofs.Ytgjfiedepfjdcaa
open Go.RowKit
section
variable {P : Program} {F : Frm} {L : Tab} {o : Oper} {ρ : Operand → AV} {hp : List Blk} {K : AV → List Blk → Prop}
/-- what an operation yields, said otherwise -/
theorem lo_say (h : LO P F o ρ hp fun a hp' => ∃ a', (∀ M u, RA M a u → RA M a' u) ∧ K a' hp') : LO P F o ρ hp K := by
  refine ⟨fun M e w he hh => (h.out M e w he hh).mono ?_⟩
  rintro u w' ⟨M', a, hp', ⟨a', hre, hK⟩, hx, hh2, hr⟩
  exact ⟨M', _, hp', hK, hx, hh2, hre _ _ hr⟩
end
section
variable {P : Program} {F : Frm} {d : Option Tmp} {ty : TypeId} {pos : String} {aft : Array Edge} {g : Option (Nat × Bool)} {ρ : Operand → AV} {hp : List Blk} {K : AV → List Blk → Prop}
/-- a variable with a value, at the end of the blocks, its address asq a closed value -/
theorem zBxT {t : TypeId} {x : Operand} {v : AV} {cs : List AV} (h : ∀ b, K (.c (.lit (.pointer (some ⟨b, 0, none⟩)))) (hp ++ [.box b t cs])) (hv : fc (ρ x) = some v := by exact rfl) (hc : evl (cellsA v) = some cs := by exact rfl) (h1 : allOne cs = true := by first | exact rfl | assumption) : LO P F ⟨d, .box t x, ty, pos, aft, g⟩ ρ hp K :=
  lo_say (lo_box (fc_eq hv) (by rw [← evl_eq hc]; exact h1) fun b => ⟨.c (.lit (.pointer (some ⟨b, 0, none⟩))), fun M u hu => by simp only [RA, RT] at hu ⊢; exact hu, by rw [← evl_eq hc]; exact h b⟩)
end
theorem Nd.oks_take : ∀ {F : List Nd} {x : Nd} {j : Nat}, Nd.oks F → F[j]? = some x → x.ok
  | [], x, j, _, h => by simp at h
  | y :: r, x, 0, h, hx => by
    simp only [Nd.oks] at h
    obtain rfl : y = x := by simpa using hx
    exact h.1
  | y :: r, x, j + 1, h, hx => by
    simp only [Nd.oks] at h
    exact Nd.oks_take (j := j) h.2 (by simpa using hx)
theorem Nd.flats_app : ∀ a b : List Nd, Nd.flats (a ++ b) = Nd.flats a ++ Nd.flats b
  | [], b => rfl
  | x :: a, b => by rw [List.cons_append, Nd.flats, Nd.flats, Nd.flats_app a b, List.append_assoc]
theorem Nd.flats_split {F : List Nd} {x : Nd} {j : Nat} (h : F[j]? = some x) : Nd.flats F = Nd.flats (F.take j) ++ (x.flat ++ Nd.flats (F.drop (j + 1))) := by
  obtain ⟨hj, rfl⟩ := List.getElem?_eq_some_iff.1 h
  have e : F = F.take j ++ F[j] :: F.drop (j + 1) := by rw [← List.drop_eq_getElem_cons hj, List.take_append_drop]
  conv => lhs; rw [e]
  rw [Nd.flats_app, Nd.flats]
theorem Nd.flats_take {F : List Nd} {x : Nd} {j : Nat} (h : F[j]? = some x) : Nd.flats (F.take (j + 1)) = Nd.flats (F.take j) ++ x.flat := by
  rw [List.take_add_one, h, Nd.flats_app]
  simp [Nd.flats]
theorem Gn.nds_app : ∀ a b : List Gn, Gn.nds (a ++ b) = Gn.nds a ++ Gn.nds b
  | [], b => rfl
  | x :: a, b => by rw [List.cons_append, Gn.nds, Gn.nds, Gn.nds_app a b, List.cons_append]
theorem Gn.oks_app : ∀ {a b : List Gn}, Gn.oks a → Gn.oks b → Gn.oks (a ++ b)
  | [], b, _, h => h
  | x :: a, b, h, h2 => by
    rw [List.cons_append]
    simp only [Gn.oks] at h ⊢
    exact ⟨h.1, Gn.oks_app h.2 h2⟩
theorem Gn.bls_app (a b : List Gn) : Gn.bls (a ++ b) = Gn.bls a ++ Gn.bls b := by
  rw [Gn.bls_flat, Gn.bls_flat, Gn.bls_flat, List.flatMap_append]
mutual
theorem Gn.bl_len : ∀ x : Gn, x.bl.length = 2 * x.cnt
  | .mk b p v a l => by
    rw [Gn.bl, Gn.cnt, List.length_cons, List.length_cons, Gn.bls_len l]
    omega
theorem Gn.bls_len : ∀ l : List Gn, (Gn.bls l).length = 2 * Gn.cnts l
  | [] => rfl
  | x :: r => by
    rw [Gn.bls, Gn.cnts, List.length_append, Gn.bl_len x, Gn.bls_len r]
    omega
end
mutual
theorem Gn.cnt_flat : ∀ x : Gn, x.ok → x.cnt ≤ x.nd.flat.length
  | .mk b p v a l, h => by
    simp only [Gn.ok] at h
    rw [Gn.cnt, Gn.nd]
    by_cases h5 : p.kind = 5
    · rw [if_pos h5, Nd.flat, List.length_cons, List.length_append]
      have := Gn.cnts_flats l h.2.2
      omega
    · rw [if_neg h5, Nd.flat, (h.2.1 h5).1]
      exact Nat.le_refl _
theorem Gn.cnts_flats : ∀ l : List Gn, Gn.oks l → Gn.cnts l ≤ (Nd.flats (Gn.nds l)).length
  | [], _ => Nat.le_refl _
  | x :: r, h => by
    simp only [Gn.oks] at h
    rw [Gn.cnts, Gn.nds, Nd.flats, List.length_append]
    have := Gn.cnt_flat x h.1
    have := Gn.cnts_flats r h.2
    omega
end
theorem Gn.len_cnts : ∀ l : List Gn, l.length ≤ Gn.cnts l
  | [] => Nat.le_refl _
  | .mk b p v a l' :: r => by
    have := Gn.len_cnts r
    rw [Gn.cnts, Gn.cnt, List.length_cons]
    omega
theorem permG {r i b : Blk} {X Y : List Blk} : ((r :: (i :: X ++ Y)) ++ [b]).Perm (r :: (Y ++ (b :: i :: X))) := by
  have h1 : ((i :: X) ++ Y ++ [b]).Perm (Y ++ ([b] ++ (i :: X))) := by
    have a1 : ((i :: X) ++ (Y ++ [b])).Perm ((Y ++ [b]) ++ (i :: X)) := List.perm_append_comm
    simpa using a1
  have := h1.cons r
  simpa using this
set_option maxRecDepth 100000 in
set_option maxHeartbeats 8000000 in
theorem grouped_ag : ∀ (n : Nat) (Q : List Nd) (tl : List Lp), (Nd.flats Q).length ≤ n → Nd.oks Q → (tl = [] ∨ ∃ r, tl = clP :: r) → (Nd.flats Q ++ tl).length ≤ 8000 → AG Try.prog 13 [.c (Lp.row (Nd.flats Q ++ tl))] [] (fun r hs => ∃ l v, Gn.nds l = Q ∧ Gn.oks l ∧ r = .tup [.own 0 v, .c (.lit (.int .i64 ((Nd.flats Q).length : Nat)))] ∧ hs = .row v 63 1 l.length (l.map Gn.ptr) :: Gn.bls l)
  | n, Q, tl, hn, hQ, htl, hlen8 => by
    have hih : ∀ m, m < n → ∀ (Q : List Nd) (tl : List Lp), (Nd.flats Q).length ≤ m → Nd.oks Q → (tl = [] ∨ ∃ r, tl = clP :: r) → (Nd.flats Q ++ tl).length ≤ 8000 → AG Try.prog 13 [.c (Lp.row (Nd.flats Q ++ tl))] [] (fun r hs => ∃ l v, Gn.nds l = Q ∧ Gn.oks l ∧ r = .tup [.own 0 v, .c (.lit (.int .i64 ((Nd.flats Q).length : Nat)))] ∧ hs = .row v 63 1 l.length (l.map Gn.ptr) :: Gn.bls l) := fun m hm => grouped_ag m
    generalize hD : Nd.flats Q ++ tl = D at *
    refine ag_enter (20000) tok Try.func13 Try.ntmps13 Try.results13 rfl (by kernel_rfl) rfl fun F => ?_
    repeat (first | refine gG ?_ | refine zN1 (fun hlen => ?_) | refine zN2 (fun hlen => ?_) | refine zBx (fun _ => ?_) | refine zAp (fun _ => ?_))
    refine x_own 4 63 1 rfl rfl rfl rfl rfl ?_
    refine x_loop [2, 3, 4, 5, 6, 7, 8, 9, 10, 11, 12, 13, 14, 15, 16, 17, 18, 19, 20, 21, 22, 23, 24, 25, 26, 27, 28, 29, 30, 31, 32, 33, 34, 35, 36, 37, 38, 39, 40, 41, 42, 43, 44, 45, 46, 47, 48, 49, 50, 51, 52, 53, 54, 55] (fun y : Nat × List Gn × Value => [(5, .c (.lit (.int .i64 ((Nd.flats (Q.take y.1)).length : Nat)))), (4, .own 0 y.2.2)]) (fun y => .row y.2.2 63 1 y.2.1.length (y.2.1.map Gn.ptr) :: Gn.bls y.2.1) (fun y => y.1 ≤ Q.length ∧ Gn.nds y.2.1 = Q.take y.1 ∧ Gn.oks y.2.1) (fun y => Q.length - y.1) (0, [], .slice none 0 0) ⟨Nat.zero_le _, rfl, by simp [Gn.oks]⟩ ⟨rfl, rfl, trivial⟩ rfl ?_
    rintro ⟨j, l, v⟩ ⟨hj, hl, hlo⟩
    dsimp only at hj hl hlo ⊢
    have hcl := Gn.cnts_flats l hlo
    rw [hl] at hcl
    have hll := Gn.len_cnts l
    have hbl := Gn.bls_len l
    have hfl := congrArg List.length hD
    rw [List.length_append] at hfl
    repeat (first | refine gG ?_ | refine zN1 (fun hlen => ?_) | refine zN2 (fun hlen => ?_) | refine zBx (fun _ => ?_) | refine zAp (fun _ => ?_))
    by_cases hjq : j < Q.length
    · obtain ⟨x, hx⟩ := nth hjq
      have hxo := Nd.oks_take hQ hx
      have hDs : D = Nd.flats (Q.take j) ++ (x.flat ++ (Nd.flats (Q.drop (j + 1)) ++ tl)) := by
        rw [← hD, Nd.flats_split hx]
        simp only [List.append_assoc]
      have hDl := congrArg List.length hDs
      simp only [List.length_append] at hDl
      have hnx := congrArg List.length (Nd.flats_take hx)
      rw [List.length_append] at hnx
      have htk : Q.take (j + 1) = Q.take j ++ [x] := by
        rw [List.take_add_one, hx]
        rfl
      have hQl := congrArg List.length (Nd.flats_split hx)
      simp only [List.length_append] at hQl
      cases x with
      | leaf p =>
        rw [Nd.flat] at *
        simp only [Nd.ok] at hxo
        obtain ⟨hop, h5, h6⟩ := hxo
        simp only [List.length_cons, List.length_nil] at hDl hnx hQl
        have hp : D[(Nd.flats (Q.take j)).length]? = some p := by
          rw [hDs, List.getElem?_append_right (Nat.le_refl _), Nat.sub_self]
          rfl
        have hk := lp_kind hp
        have hat := Lp.at hp
        have f5 : decide (p.kind = 5) = false := decide_eq_false h5
        have f6 : decide (p.kind = 6) = false := decide_eq_false h6
        have hi : (Nd.flats (Q.take j)).length < D.length := by omega
        have d0 : decide (((Nd.flats (Q.take j)).length : Int) < (D.length : Int)) = true := decide_eq_true (by omega)
        have hll8 : l.length ≤ 8000 := by omega
        clear hDs hp hcl
        generalize hip : (Nd.flats (Q.take j)).length = ip at *
        repeat (first | refine gG ?_ | refine zN1 (fun hlen => ?_) | refine zN2 (fun hlen => ?_) | refine zBx (fun _ => ?_) | refine zAp (fun _ => ?_))
        refine zIx ip hi ?_
        repeat (first | refine gG ?_ | refine zN1 (fun hlen => ?_) | refine zN2 (fun hlen => ?_) | refine zBx (fun _ => ?_) | refine zAp (fun _ => ?_))
        refine zEl1 hk ?_
        repeat (first | refine gG ?_ | refine zN1 (fun hlen => ?_) | refine zN2 (fun hlen => ?_) | refine zBx (fun _ => ?_) | refine zAp (fun _ => ?_))
        refine zIx ip hi ?_
        repeat (first | refine gG ?_ | refine zN1 (fun hlen => ?_) | refine zN2 (fun hlen => ?_) | refine zBx (fun _ => ?_) | refine zAp (fun _ => ?_))
        refine zEl hat (Lp.ts_len p) ?_
        obtain ⟨ka, nu, s⟩ := p
        repeat (first | refine gG ?_ | refine zN1 (fun hlen => ?_) | refine zN2 (fun hlen => ?_) | refine zBx (fun _ => ?_) | refine zAp (fun _ => ?_))
        refine zBxT (fun b => ?_)
        repeat (first | refine gG ?_ | refine zN1 (fun hlen => ?_) | refine zN2 (fun hlen => ?_) | refine zBx (fun _ => ?_) | refine zAp (fun _ => ?_))
        refine zApS (fun w => ?_)
        repeat (first | refine gG ?_ | refine zN1 (fun hlen => ?_) | refine zN2 (fun hlen => ?_) | refine zBx (fun _ => ?_) | refine zAp (fun _ => ?_))
        have h5' : ¬ ka = 5 := h5
        exact ⟨(j + 1, l ++ [.mk b ⟨ka, nu, s⟩ (.slice none 0 0) 0 []], w), ⟨hjq, by dsimp only; rw [Gn.nds_app, hl, htk, Gn.nds, Gn.nd, if_neg h5]; rfl, Gn.oks_app hlo (by simp only [Gn.oks, Gn.ok]; exact ⟨⟨hop, fun _ => ⟨trivial, h6⟩, trivial⟩, trivial⟩)⟩, by dsimp only; omega,
          Wk.trans (wk_perm (hp' := Blk.box b 65 [.c (.lit (.int .i64 ka)), .c (.lit (.int .i64 nu)), .c (.lit (.string s)), .c (.lit (.slice none 0 0)), .c (.lit (.int .i64 0))] :: Blk.row w 63 1 (l.length + 1) (l.map Gn.ptr ++ [T.lit (.pointer (some ⟨b, 0, none⟩))]) :: Gn.bls l) (List.perm_append_comm (l₁ := Blk.row w 63 1 (l.length + 1) (l.map Gn.ptr ++ [T.lit (.pointer (some ⟨b, 0, none⟩))]) :: Gn.bls l) (l₂ := [Blk.box b 65 [.c (.lit (.int .i64 ka)), .c (.lit (.int .i64 nu)), .c (.lit (.string s)), .c (.lit (.slice none 0 0)), .c (.lit (.int .i64 0))]])))
          (Wk.trans (wk_boxR 0 [.c (.lit (.int .i64 ka)), .c (.lit (.int .i64 nu)), .c (.lit (.string s)), .own 1 (.slice none 0 0), .c (.lit (.int .i64 0))] rfl (res_cons re_refl (res_cons re_refl (res_cons re_refl (res_cons (fun M u hu => by simp only [RA, RT] at hu ⊢; exact ⟨hu, rfl⟩) (res_cons re_refl res_nil))))))
          (Wk.trans (wk_nils 63 1 (by omega) 1)
          (Wk.trans (wk_perm (hp' := Blk.row w 63 1 (l.length + 1) (l.map Gn.ptr ++ [T.lit (.pointer (some ⟨b, 0, none⟩))]) :: (Gn.bls l ++ [Blk.box b 65 [.c (.lit (.int .i64 ka)), .c (.lit (.int .i64 nu)), .c (.lit (.string s)), .own 1 (.slice none 0 0), .c (.lit (.int .i64 0))], Blk.row (.slice none 0 0) 63 1 0 []])) (List.perm_append_comm_assoc [Blk.box b 65 [.c (.lit (.int .i64 ka)), .c (.lit (.int .i64 nu)), .c (.lit (.string s)), .own 1 (.slice none 0 0), .c (.lit (.int .i64 0))]] (Blk.row w 63 1 (l.length + 1) (l.map Gn.ptr ++ [T.lit (.pointer (some ⟨b, 0, none⟩))]) :: Gn.bls l) [Blk.row (.slice none 0 0) 63 1 0 []]))
          (x_wk ⟨by dsimp only; rw [hnx]; rfl, rfl, trivial⟩ (by dsimp only; rw [Gn.bls_app, List.length_append, List.map_append]; rfl) (by repeat (first | exact ag_refl | refine ag_upd rfl ?_ | refine ag_at rfl rfl ?_))))))⟩
      | grp p l' =>
        rw [Nd.flat] at *
        simp only [Nd.ok] at hxo
        obtain ⟨hop, h5, hlo'⟩ := hxo
        simp only [List.length_cons, List.length_append, List.length_nil] at hDl hnx hQl
        have hp : D[(Nd.flats (Q.take j)).length]? = some p := by
          rw [hDs, List.getElem?_append_right (Nat.le_refl _), Nat.sub_self]
          rfl
        have hdr : D.drop ((Nd.flats (Q.take j)).length + 1) = Nd.flats l' ++ (clP :: (Nd.flats (Q.drop (j + 1)) ++ tl)) := by
          rw [hDs, List.cons_append]
          have := drop_at (d := Nd.flats (Q.take j) ++ p :: ((Nd.flats l' ++ [clP]) ++ (Nd.flats (Q.drop (j + 1)) ++ tl))) (a := [p]) (rest := (Nd.flats l' ++ [clP]) ++ (Nd.flats (Q.drop (j + 1)) ++ tl)) (i := (Nd.flats (Q.take j)).length) (by rw [List.drop_left]; rfl)
          rw [List.length_singleton] at this
          rw [this]
          simp
        have hdl := congrArg List.length hdr
        rw [List.length_drop, List.length_append, List.length_cons] at hdl
        have hrec := hih (Nd.flats l').length (by omega) l' (clP :: (Nd.flats (Q.drop (j + 1)) ++ tl)) (Nat.le_refl _) hlo' (.inr ⟨_, rfl⟩) (by rw [← hdr, List.length_drop]; omega)
        rw [← hdr] at hrec
        have hk := lp_kind hp
        have hat := Lp.at hp
        have f5 : decide (p.kind = 5) = true := decide_eq_true h5
        have f6 : decide (p.kind = 6) = false := decide_eq_false (by omega)
        have hi : (Nd.flats (Q.take j)).length < D.length := by omega
        have d0 : decide (((Nd.flats (Q.take j)).length : Int) < (D.length : Int)) = true := decide_eq_true (by omega)
        have hll8 : l.length ≤ 8000 := by omega
        clear hDs hp hcl hdr hih
        generalize hip : (Nd.flats (Q.take j)).length = ip at *
        generalize hlp : (Nd.flats l').length = lp at *
        repeat (first | refine gG ?_ | refine zN1 (fun hlen => ?_) | refine zN2 (fun hlen => ?_) | refine zBx (fun _ => ?_) | refine zAp (fun _ => ?_))
        refine zIx ip hi ?_
        repeat (first | refine gG ?_ | refine zN1 (fun hlen => ?_) | refine zN2 (fun hlen => ?_) | refine zBx (fun _ => ?_) | refine zAp (fun _ => ?_))
        refine zEl1 hk ?_
        repeat (first | refine gG ?_ | refine zN1 (fun hlen => ?_) | refine zN2 (fun hlen => ?_) | refine zBx (fun _ => ?_) | refine zAp (fun _ => ?_))
        refine zPlf (ip + 1) hi Lp.ts_len ?_
        repeat (first | refine gG ?_ | refine zN1 (fun hlen => ?_) | refine zN2 (fun hlen => ?_) | refine zBx (fun _ => ?_) | refine zAp (fun _ => ?_))
        refine lo_frame [] (.row v 63 1 l.length (l.map Gn.ptr) :: Gn.bls l) (List.Perm.refl _) (fun F' => ?_)
        refine zCallAll hrec (List.Perm.refl _) ?_
        rintro _ _ ⟨l2, v2, hn2, ho2, rfl, rfl⟩
        refine ⟨_, re_refl, ?_⟩
        repeat (first | refine gO ?_ | refine zN1 (fun hlen => ?_) | refine zN2 (fun hlen => ?_) | refine zBx (fun _ => ?_) | refine zAp (fun _ => ?_))
        refine x_perm (hp' := Blk.row v 63 1 l.length (l.map Gn.ptr) :: ((Blk.row v2 63 1 l2.length (l2.map Gn.ptr) :: Gn.bls l2) ++ Gn.bls l)) List.perm_middle ?_
        refine x_as 6 (.own 1 v2) re_own ?_
        repeat (first | refine gG ?_ | refine zN1 (fun hlen => ?_) | refine zN2 (fun hlen => ?_) | refine zBx (fun _ => ?_) | refine zAp (fun _ => ?_))
        refine zIx ip hi ?_
        repeat (first | refine gG ?_ | refine zN1 (fun hlen => ?_) | refine zN2 (fun hlen => ?_) | refine zBx (fun _ => ?_) | refine zAp (fun _ => ?_))
        refine zEl hat (Lp.ts_len p) ?_
        obtain ⟨ka, nu, s⟩ := p
        repeat (first | refine gG ?_ | refine zN1 (fun hlen => ?_) | refine zN2 (fun hlen => ?_) | refine zBx (fun _ => ?_) | refine zAp (fun _ => ?_))
        refine zBxT (fun b => ?_)
        repeat (first | refine gG ?_ | refine zN1 (fun hlen => ?_) | refine zN2 (fun hlen => ?_) | refine zBx (fun _ => ?_) | refine zAp (fun _ => ?_))
        refine zApS (fun w => ?_)
        repeat (first | refine gG ?_ | refine zN1 (fun hlen => ?_) | refine zN2 (fun hlen => ?_) | refine zBx (fun _ => ?_) | refine zAp (fun _ => ?_))
        refine lo_add rfl rfl (r := ((ip + (lp + 1) : Nat) : Int)) (by rw [IntWalk.i64_in _ (by omega)]; omega) ?_
        repeat (first | refine gG ?_ | refine zN1 (fun hlen => ?_) | refine zN2 (fun hlen => ?_) | refine zBx (fun _ => ?_) | refine zAp (fun _ => ?_))
        have h5' : ka = 5 := h5
        exact ⟨(j + 1, l ++ [.mk b ⟨ka, nu, s⟩ v2 0 l2], w), ⟨hjq, by dsimp only; rw [Gn.nds_app, hl, htk, Gn.nds, Gn.nd, if_pos h5, hn2]; rfl, Gn.oks_app hlo (by simp only [Gn.oks, Gn.ok]; exact ⟨⟨hop, fun h => absurd h5 h, ho2⟩, trivial⟩)⟩, by dsimp only; omega,
          Wk.trans (wk_perm (permG (r := Blk.row w 63 1 (l.length + 1) (l.map Gn.ptr ++ [T.lit (.pointer (some ⟨b, 0, none⟩))])) (i := Blk.row v2 63 1 l2.length (l2.map Gn.ptr)) (b := Blk.box b 65 [.c (.lit (.int .i64 ka)), .c (.lit (.int .i64 nu)), .c (.lit (.string s)), .own 1 v2, .c (.lit (.int .i64 0))]) (X := Gn.bls l2) (Y := Gn.bls l)))
          (x_wk ⟨by dsimp only; rw [hnx]; rfl, rfl, trivial⟩ (by dsimp only; rw [Gn.bls_app, List.length_append, List.map_append, show Gn.bls [Gn.mk b ⟨ka, nu, s⟩ v2 0 l2] = (Gn.mk b ⟨ka, nu, s⟩ v2 0 l2).bl from List.append_nil _]; rfl) (by repeat (first | exact ag_refl | refine ag_upd rfl ?_ | refine ag_at rfl rfl ?_)))⟩
    · have hjl : j = Q.length := by omega
      subst hjl
      rw [List.take_length] at *
      have hll8 : Gn.cnts l ≤ 8000 := by omega
      rcases htl with rfl | ⟨r, rfl⟩
      · rw [List.append_nil] at hD
        subst hD
        have d0 : decide (((Nd.flats Q).length : Int) < ((Nd.flats Q).length : Int)) = false := decide_eq_false (by omega)
        repeat (first | refine gG ?_ | refine zN1 (fun hlen => ?_) | refine zN2 (fun hlen => ?_) | refine zBx (fun _ => ?_) | refine zAp (fun _ => ?_))
        refine zGS (hq := Blk.row v 63 1 l.length (l.map Gn.ptr) :: Gn.bls l) (List.take_of_length_le (by rw [List.length_cons]; omega)) ⟨l, v, hl, hlo, rfl, rfl⟩
      · rw [List.length_cons] at hfl
        have hp : D[(Nd.flats Q).length]? = some clP := by
          rw [← hD, List.getElem?_append_right (Nat.le_refl _), Nat.sub_self]
          rfl
        have hk : (D.flatMap Lp.ts)[(Nd.flats Q).length * 3]? = some (.lit (.int .i64 6)) := lp_kind hp
        have hi : (Nd.flats Q).length < D.length := by omega
        have f6 : decide ((6 : Int) = 6) = true := rfl
        have d0 : decide (((Nd.flats Q).length : Int) < (D.length : Int)) = true := decide_eq_true (by omega)
        clear hp hcl
        generalize (Nd.flats Q).length = ip at *
        repeat (first | refine gG ?_ | refine zN1 (fun hlen => ?_) | refine zN2 (fun hlen => ?_) | refine zBx (fun _ => ?_) | refine zAp (fun _ => ?_))
        refine zIx ip hi ?_
        repeat (first | refine gG ?_ | refine zN1 (fun hlen => ?_) | refine zN2 (fun hlen => ?_) | refine zBx (fun _ => ?_) | refine zAp (fun _ => ?_))
        refine zEl1 hk ?_
        repeat (first | refine gG ?_ | refine zN1 (fun hlen => ?_) | refine zN2 (fun hlen => ?_) | refine zBx (fun _ => ?_) | refine zAp (fun _ => ?_))
        refine zGS (hq := Blk.row v 63 1 l.length (l.map Gn.ptr) :: Gn.bls l) (List.take_of_length_le (by rw [List.length_cons]; omega)) ⟨l, v, hl, hlo, rfl, rfl⟩
end Go.Proofs.Ytgjfiedepfjdcaa
