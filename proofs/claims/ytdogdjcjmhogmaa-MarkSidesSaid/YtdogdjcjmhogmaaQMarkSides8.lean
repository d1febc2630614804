/-
  Texts of this proof, part 8: Kmf Open Law OpenT OpenB OpenA.
-/
import Derived.Test.YtdogdjcjmhogmaaQMarkSides7
import Derived.ChangeArms
import Derived.Deep.Slices
import Derived.JoinedCond
import Derived.Laws.IdiomRangeMap
import Derived.Lib.AppendZerosOnto
import Derived.Lib.MinMax
import Derived.OpenShut
import Derived.ProofKit
import Derived.Test.YtdogdjcjmhogmaaRows
namespace Go.Proofs.Ytdogdjcjmhogmaa
open Go.RowKit
@[reducible] def hpS (b : Nat) (l : List Int) (vm vw : Value) (bo bw : Nat) (y : MSt) : List Blk := sdB b l y.bg y.st vm vw :: mkB vm y.m :: owB vw y.S :: .mp bo (mkeys (Value.int .i64) (ovM y.ov)) :: .mp bw (mkeys (Value.int .i64) (wayM y.W)) :: (y.S ++ y.W.map Prod.snd).map inB
theorem nils_inB (n : Nat) : List.replicate n (Blk.row (.slice none 0 0) 3 1 0 []) = (nils n).map inB := by
  unfold nils
  rw [List.map_replicate]; rfl
theorem ovM_len (ov : List Int) : (ovM ov).length = ov.length := by simp [ovM]
theorem rowsT_at {S : List (Value × List Int)} {j : Nat} {x : Value × List Int} (h : S[j]? = some x) : (rowsT S)[j * 1]? = some (intRow x.2) := by
  unfold rowsT
  rw [Nat.mul_one, List.getElem?_map, h]; rfl
theorem row_out {S : List (Value × List Int)} {W : List (Value × List Int)} {i : Nat} {x : Value × List Int} (h : S[i]? = some x) : ((S ++ W).map inB).Perm (inB x :: ((S ++ W).eraseIdx i).map inB) :=
  fam_out (by rw [List.getElem?_append_left (List.getElem?_eq_some_iff.1 h).1]; exact h)
theorem row_in {S : List (Value × List Int)} {W : List (Value × List Int)} {i : Nat} (h : i < S.length) (x : Value × List Int) : ((S.set i x ++ W).map inB).Perm (inB x :: ((S ++ W).eraseIdx i).map inB) := by
  have h1 := fam_in (f := inB) (l := S ++ W) (i := i) (by rw [List.length_append]; omega) x
  rw [List.set_append_left i x h] at h1
  exact h1.symm
theorem way_at {S : List (Value × List Int)} {W : List (Int × (Value × List Int))} {j : Nat} {e : Int × (Value × List Int)} (h : W[j]? = some e) : ((S ++ W.map Prod.snd).map inB)[S.length + j]? = some (inB e.2) := by
  rw [List.getElem?_map, List.getElem?_append_right (by omega), Nat.add_sub_cancel_left, List.getElem?_map, h]; rfl
theorem way_row {a b c d e : Blk} {S : List (Value × List Int)} {W : List (Int × (Value × List Int))} {j : Nat} {z : Int × (Value × List Int)} (h : W[j]? = some z) (x : List Blk) : ((a :: b :: c :: d :: e :: (S ++ W.map Prod.snd).map inB) ++ x)[S.length + j + 5]? = some (inB z.2) := by
  have h1 := way_at (S := S) h
  rw [List.getElem?_append_left]
  · exact h1
  · have := (List.getElem?_eq_some_iff.1 h1).1
    simp only [List.length_cons]; omega
theorem way_set {S : List (Value × List Int)} {W : List (Int × (Value × List Int))} {j : Nat} (p : Int) (x : Value × List Int) : ((S ++ W.map Prod.snd).map inB).set (S.length + j) (inB x) = (S ++ (W.set j (p, x)).map Prod.snd).map inB := by
  rw [← List.map_set, List.set_append_right _ _ (by omega), Nat.add_sub_cancel_left, List.map_set]
theorem ints_app (x : List Int) (k : Int) : x.flatMap intTs ++ [T.lit (.int .i64 k)] = (x ++ [k]).flatMap intTs := by rw [List.flatMap_append]; rfl
theorem way_put {S : List (Value × List Int)} {W : List (Int × (Value × List Int))} {j : Nat} (p : Int) (v : Value) (x : List Int) (k : Int) : ((S ++ W.map Prod.snd).map inB).set (S.length + j) (.row v 3 1 (x.length + 1) (x.flatMap intTs ++ [T.lit (.int .i64 k)])) = (S ++ (W.set j (p, (v, x ++ [k]))).map Prod.snd).map inB := by
  rw [ints_app, ← way_set p (v, x ++ [k])]
  unfold inB
  simp only [List.length_append, List.length_cons, List.length_nil]
theorem way_new {S : List (Value × List Int)} {W : List (Int × (Value × List Int))} (p : Int) (v : Value) (k : Int) : (S ++ W.map Prod.snd).map inB ++ [.row v 3 1 1 [T.lit (.int .i64 k)]] = (S ++ (W ++ [(p, (v, [k]))]).map Prod.snd).map inB := by
  simp [intTs]
def wantAt (l : List Int) (k : Nat) : Int := if (l.take k).Nodup then 0 else 5
theorem want_zero (l : List Int) : wantAt l 0 = 0 := by unfold wantAt; rw [if_pos (by simp)]
theorem want_dup {l : List Int} {k : Nat} {x : Int} (hx : l[k]? = some x) (hm : x ∈ l.take k) : wantAt l (k + 1) = 5 := by
  unfold wantAt
  refine if_neg fun h => ?_
  obtain ⟨h1, rfl⟩ := List.getElem?_eq_some_iff.1 hx
  rw [List.take_succ_eq_append_getElem h1, List.nodup_append] at h
  exact h.2.2 _ hm _ (by simp) rfl
theorem want_new {l : List Int} {k : Nat} {x : Int} (hx : l[k]? = some x) (hm : x ∉ l.take k) : wantAt l (k + 1) = wantAt l k := by
  unfold wantAt
  by_cases h : (l.take k).Nodup
  · rw [if_pos h, if_pos (nodup_step h hx hm)]
  · rw [if_neg h, if_neg fun h2 => h ?_]
    obtain ⟨h1, rfl⟩ := List.getElem?_eq_some_iff.1 hx
    rw [List.take_succ_eq_append_getElem h1, List.nodup_append] at h2
    exact h2.1
set_option maxRecDepth 100000 in
set_option maxHeartbeats 8000000 in
theorem markSides_af (l : List Int) (acts : List Acq) : AF Try.prog 3 [intRow l, Acq.row acts] (· = .lit (.bool true)) := by
  have hn0 := new_ok [] (by simp) List.nodup_nil
  have hb0 := fun b vm vw => begin_no b [] 0 vm vw 3
  have hb1 := fun b vm vw => begin_yes b [] 3 vm vw 3
  have hE := fun k x => hasInt_af (l.take k) x
  have hT := fun x => hasInt_af l x
  by_cases he : newErr l = 0
  rotate_left
  · have hne := new_err l he
    have hne2 : newErr l = if 8 < l.length then 2 else if l.Nodup then 0 else 5 := rfl
    generalize newErr l = z at *
    have d1 : decide (z = z) = true := decide_eq_true rfl
    have d2 : (!decide (z = z)) = false := by rw [d1]; rfl
    have d3 : (!decide (z = 0)) = true := by rw [decide_eq_false he]; rfl
    refine af_enter tok Try.func3 Try.ntmps3 Try.results3 rfl (by kernel_rfl) rfl rfl fun F hX => ?_
    repeat (first | refine gG ?_ | refine zN1 (fun hlen => ?_) | refine zN2 (fun hlen => ?_) | refine zAl (fun _ => ?_) | refine zAp (fun _ => ?_))
    refine zCallG [] hn0 ?_
    rintro _ _ ⟨b0, vm0, vw0, rfl, rfl⟩
    refine ⟨.tup [.ptr 0 b0 0, .c (.lit (.int .i64 0))], _, re_refl, rfl, rfl, ?_⟩
    repeat (first | refine gG ?_ | refine zN1 (fun hlen => ?_) | refine zN2 (fun hlen => ?_) | refine zAl (fun _ => ?_) | refine zAp (fun _ => ?_))
    refine zCallG [0] (hb0 b0 vm0 vw0) ?_
    rintro _ _ ⟨rfl, rfl⟩
    refine ⟨_, _, re_refl, rfl, rfl, ?_⟩
    repeat (first | refine gG ?_ | refine zN1 (fun hlen => ?_) | refine zN2 (fun hlen => ?_) | refine zAl (fun _ => ?_) | refine zAp (fun _ => ?_))
    refine zCallG [0] (hb1 b0 vm0 vw0) ?_
    rintro _ _ ⟨rfl, rfl⟩
    refine ⟨_, _, re_refl, rfl, rfl, ?_⟩
    repeat (first | refine gG ?_ | refine zN1 (fun hlen => ?_) | refine zN2 (fun hlen => ?_) | refine zAl (fun _ => ?_) | refine zAp (fun _ => ?_))
    refine zCallG [] hne ?_
    rintro _ _ ⟨rfl, rfl⟩
    refine ⟨_, _, re_refl, rfl, rfl, ?_⟩
    repeat (first | refine gG ?_ | refine zN1 (fun hlen => ?_) | refine zN2 (fun hlen => ?_) | refine zAl (fun _ => ?_) | refine zAp (fun _ => ?_))
    refine x_drop 0 rfl ?_
    refine x_loop [9, 10, 11, 56, 57, 58, 59, 60, 61, 62, 63, 64, 65, 66] (fun k : Nat => [(56, .c (.lit (.int .i64 (k : Nat)))), (9, .c (.lit (.int .i64 (wantAt l k))))]) (fun _ => []) (fun k => k ≤ l.length) (fun k => l.length - k) 0 (Nat.zero_le _) ⟨rfl, by rw [want_zero]; rfl, trivial⟩ rfl ?_
    rintro k hk
    repeat (first | refine gG ?_ | refine zN1 (fun hlen => ?_) | refine zN2 (fun hlen => ?_) | refine zAl (fun _ => ?_) | refine zAp (fun _ => ?_))
    refine x_cond rfl (fun h => ?_) (fun h => ?_)
    · have hk' : k < l.length := by simpa using h
      obtain ⟨a, ha⟩ := nth hk'
      have hat := int_at ha
      have hc := hE k a
      have hwd := fun hm => want_dup ha (any_iff.1 hm)
      have hwn := fun (hm : ¬ (l.take k).any (fun x => decide (a = x)) = true) => want_new ha (fun h => hm (any_iff.2 h))
      generalize (l.take k).any (fun x => decide (a = x)) = q at *
      clear h ha hne2
      cases q
      · replace hwn := hwn (by simp)
        repeat (first | refine gG ?_ | refine zN1 (fun hlen => ?_) | refine zN2 (fun hlen => ?_) | refine zAl (fun _ => ?_) | refine zAp (fun _ => ?_))
        refine zIx k hk' ?_
        repeat (first | refine gG ?_ | refine zN1 (fun hlen => ?_) | refine zN2 (fun hlen => ?_) | refine zAl (fun _ => ?_) | refine zAp (fun _ => ?_))
        refine zEl1 hat ?_
        repeat (first | refine gG ?_ | refine zN1 (fun hlen => ?_) | refine zN2 (fun hlen => ?_) | refine zAl (fun _ => ?_) | refine zAp (fun _ => ?_))
        refine zPhf (f := intTs) k hk (fun _ => rfl) ?_
        repeat (first | refine gG ?_ | refine zN1 (fun hlen => ?_) | refine zN2 (fun hlen => ?_) | refine zAl (fun _ => ?_) | refine zAp (fun _ => ?_))
        refine zCall (hc) ?_
        rintro _ rfl
        repeat (first | refine gG ?_ | refine zN1 (fun hlen => ?_) | refine zN2 (fun hlen => ?_) | refine zAl (fun _ => ?_) | refine zAp (fun _ => ?_))
        exact ⟨k + 1, hk', by omega, x_wkd 0 ⟨rfl, by rw [hwn]; rfl, trivial⟩ rfl (by repeat (first | exact ag_refl | refine ag_upd rfl ?_ | refine ag_at rfl rfl ?_))⟩
      · replace hwd := hwd rfl
        repeat (first | refine gG ?_ | refine zN1 (fun hlen => ?_) | refine zN2 (fun hlen => ?_) | refine zAl (fun _ => ?_) | refine zAp (fun _ => ?_))
        refine zIx k hk' ?_
        repeat (first | refine gG ?_ | refine zN1 (fun hlen => ?_) | refine zN2 (fun hlen => ?_) | refine zAl (fun _ => ?_) | refine zAp (fun _ => ?_))
        refine zEl1 hat ?_
        repeat (first | refine gG ?_ | refine zN1 (fun hlen => ?_) | refine zN2 (fun hlen => ?_) | refine zAl (fun _ => ?_) | refine zAp (fun _ => ?_))
        refine zPhf (f := intTs) k hk (fun _ => rfl) ?_
        repeat (first | refine gG ?_ | refine zN1 (fun hlen => ?_) | refine zN2 (fun hlen => ?_) | refine zAl (fun _ => ?_) | refine zAp (fun _ => ?_))
        refine zCall (hc) ?_
        rintro _ rfl
        repeat (first | refine gG ?_ | refine zN1 (fun hlen => ?_) | refine zN2 (fun hlen => ?_) | refine zAl (fun _ => ?_) | refine zAp (fun _ => ?_))
        exact ⟨k + 1, hk', by omega, x_wkd 0 ⟨rfl, by rw [hwd]; rfl, trivial⟩ rfl (by repeat (first | exact ag_refl | refine ag_upd rfl ?_ | refine ag_at rfl rfl ?_))⟩
    · have hk' : k = l.length := by have : ¬ k < l.length := by simpa using h
                                    omega
      subst hk'
      have hw : wantAt l l.length = if l.Nodup then 0 else 5 := by unfold wantAt; rw [List.take_length]
      rw [← hw] at hne2
      generalize wantAt l l.length = w at *
      clear h hw hk hE hT hne
      cases d8 : decide ((8 : Int) < ((l.length : Nat) : Int))
      · have : w = z := by rw [hne2, if_neg (by have := of_decide_eq_false d8; omega)]
        subst this
        clear hne2
        repeat (first | refine gG ?_ | refine zN1 (fun hlen => ?_) | refine zN2 (fun hlen => ?_) | refine zAl (fun _ => ?_) | refine zAp (fun _ => ?_))
        first | refine zR ?_ | refine zQ ?_
        rfl
      · have : z = 2 := by rw [hne2, if_pos (by have := of_decide_eq_true d8; omega)]
        subst this
        clear hne2
        repeat (first | refine gG ?_ | refine zN1 (fun hlen => ?_) | refine zN2 (fun hlen => ?_) | refine zAl (fun _ => ?_) | refine zAp (fun _ => ?_))
        first | refine zR ?_ | refine zQ ?_
        rfl
  have h8 : l.length ≤ 8 := by
    unfold newErr at he
    split at he
    · cases he
    · omega
  have hnd : l.Nodup := by
    unfold newErr at he
    split at he
    · cases he
    · split at he
      · assumption
      · cases he
  have hno := new_ok l h8 hnd
  have d8 : decide ((8 : Int) < ((l.length : Nat) : Int)) = false := decide_eq_false (by omega)
  have hn0' := nils_inB l.length
  refine af_enter tok Try.func3 Try.ntmps3 Try.results3 rfl (by kernel_rfl) rfl rfl fun F hX => ?_
  repeat (first | refine gG ?_ | refine zN1 (fun hlen => ?_) | refine zN2 (fun hlen => ?_) | refine zAl (fun _ => ?_) | refine zAp (fun _ => ?_))
  refine zCallG [] hn0 ?_
  rintro _ _ ⟨b0, vm0, vw0, rfl, rfl⟩
  refine ⟨.tup [.ptr 0 b0 0, .c (.lit (.int .i64 0))], _, re_refl, rfl, rfl, ?_⟩
  repeat (first | refine gG ?_ | refine zN1 (fun hlen => ?_) | refine zN2 (fun hlen => ?_) | refine zAl (fun _ => ?_) | refine zAp (fun _ => ?_))
  refine zCallG [0] (hb0 b0 vm0 vw0) ?_
  rintro _ _ ⟨rfl, rfl⟩
  refine ⟨_, _, re_refl, rfl, rfl, ?_⟩
  repeat (first | refine gG ?_ | refine zN1 (fun hlen => ?_) | refine zN2 (fun hlen => ?_) | refine zAl (fun _ => ?_) | refine zAp (fun _ => ?_))
  refine zCallG [0] (hb1 b0 vm0 vw0) ?_
  rintro _ _ ⟨rfl, rfl⟩
  refine ⟨_, _, re_refl, rfl, rfl, ?_⟩
  repeat (first | refine ac_seq ?_ | refine ac_block ?_ | refine ac_skip ?_ | refine zF ?_ | refine zT ?_ | refine gO ?_)
  refine x_drop 0 rfl ?_
  repeat (first | refine gG ?_ | refine zN1 (fun hlen => ?_) | refine zN2 (fun hlen => ?_) | refine zAl (fun _ => ?_) | refine zAp (fun _ => ?_))
  refine zCallG [] hno ?_
  rintro _ _ ⟨b, vm, vw, rfl, rfl⟩
  refine ⟨.tup [.ptr 0 b 0, .c (.lit (.int .i64 0))], _, re_refl, rfl, rfl, ?_⟩
  repeat (first | refine gG ?_ | refine zN1 (fun hlen => ?_) | refine zN2 (fun hlen => ?_) | refine zAl (fun _ => ?_) | refine zAp (fun _ => ?_))
  refine x_loop [9, 10, 11, 56, 57, 58, 59, 60, 61, 62, 63, 64, 65, 66] (fun k : Nat => [(56, .c (.lit (.int .i64 (k : Nat)))), (9, .c (.lit (.int .i64 0)))]) (fun _ => [sdB b l false 0 vm vw, mkB vm (List.replicate l.length false), owB vw (nils l.length)]) (fun k => k ≤ l.length) (fun k => l.length - k) 0 (Nat.zero_le _) ⟨rfl, rfl, trivial⟩ rfl ?_
  · rintro k hk
    repeat (first | refine gG ?_ | refine zN1 (fun hlen => ?_) | refine zN2 (fun hlen => ?_) | refine zAl (fun _ => ?_) | refine zAp (fun _ => ?_))
    refine x_cond rfl (fun h => ?_) (fun h => ?_)
    · have hk' : k < l.length := by simpa using h
      obtain ⟨a, ha⟩ := nth hk'
      have hat := int_at ha
      have hc := hE k a
      have hz : (l.take k).any (fun x => decide (a = x)) = false := by
        cases hz : (l.take k).any (fun x => decide (a = x)) with
        | false => rfl
        | true => exact absurd hnd (not_nodup ha (any_iff.1 hz))
      rw [hz] at hc
      clear h ha hz
      repeat (first | refine gG ?_ | refine zN1 (fun hlen => ?_) | refine zN2 (fun hlen => ?_) | refine zAl (fun _ => ?_) | refine zAp (fun _ => ?_))
      refine zIx k hk' ?_
      repeat (first | refine gG ?_ | refine zN1 (fun hlen => ?_) | refine zN2 (fun hlen => ?_) | refine zAl (fun _ => ?_) | refine zAp (fun _ => ?_))
      refine zEl1 hat ?_
      repeat (first | refine gG ?_ | refine zN1 (fun hlen => ?_) | refine zN2 (fun hlen => ?_) | refine zAl (fun _ => ?_) | refine zAp (fun _ => ?_))
      refine zPhf (f := intTs) k hk (fun _ => rfl) ?_
      repeat (first | refine gG ?_ | refine zN1 (fun hlen => ?_) | refine zN2 (fun hlen => ?_) | refine zAl (fun _ => ?_) | refine zAp (fun _ => ?_))
      refine zCall (hc) ?_
      rintro _ rfl
      repeat (first | refine gG ?_ | refine zN1 (fun hlen => ?_) | refine zN2 (fun hlen => ?_) | refine zAl (fun _ => ?_) | refine zAp (fun _ => ?_))
      exact ⟨k + 1, hk', by omega, x_wkd 3 ⟨rfl, rfl, trivial⟩ rfl (by repeat (first | exact ag_refl | refine ag_upd rfl ?_ | refine ag_at rfl rfl ?_))⟩
    clear h hE
    repeat (first | refine gG ?_ | refine zN1 (fun hlen => ?_) | refine zN2 (fun hlen => ?_) | refine zAl (fun _ => ?_) | refine zAp (fun _ => ?_))
    refine zMm (fun bo => ?_)
    repeat (first | refine gG ?_ | refine zN1 (fun hlen => ?_) | refine zN2 (fun hlen => ?_) | refine zAl (fun _ => ?_) | refine zAp (fun _ => ?_))
    refine zMm (fun bw => ?_)
    repeat (first | refine gG ?_ | refine zN1 (fun hlen => ?_) | refine zN2 (fun hlen => ?_) | refine zAl (fun _ => ?_) | refine zAp (fun _ => ?_))
    refine ac_wk (wk_nils 3 1 (by omega) l.length) ?_
    rw [hn0']
    have hacts : acts.length ≤ 9223372036854775807 := by assumption
    refine x_loop [4, 12, 13, 16, 17, 18, 19, 20, 21, 22, 23, 24, 25, 26, 27, 28, 88, 89, 90, 91, 92, 93, 94, 95, 96, 97, 98, 99, 100, 101, 102, 103, 104, 105, 106, 107, 108, 109, 110, 111, 112, 113, 114, 115, 116, 117, 118, 119, 120, 121, 122, 123, 124, 125, 126, 127, 128, 129, 130, 131, 132, 133, 134, 135, 136, 137, 138, 139, 140, 141, 142, 143, 144, 145, 146, 147, 148, 149, 150, 151, 152, 153, 154, 155, 156, 157, 158, 159, 160, 161, 162, 163, 164, 165, 166, 167, 168, 169, 170, 171, 172, 173, 174, 175, 176, 177, 178, 179, 180, 181, 182, 183, 184, 185, 186, 187, 188, 189, 190, 191, 192, 193, 194, 195, 196, 197, 198, 199, 200, 201, 202, 203, 204, 205, 206, 207, 208, 209, 210, 211, 212, 213, 214, 215, 216, 217, 218, 219, 220, 221, 222, 223, 224, 225, 226, 227, 228, 229, 230, 231, 232, 233, 234, 235, 236, 237, 238, 239, 240, 241, 242, 243, 244, 245, 246, 247, 248, 249, 250, 251, 252, 253, 254, 255, 256, 257] (fun y : MSt => [(88, .c (.lit (.int .i64 (y.k : Nat)))), (12, .c (.lit (.bool y.bg))), (13, .c (.lit (.int .i64 y.st)))]) (fun y => hpS b l vm vw bo bw y) (MInv l acts.length) (fun y => acts.length - y.k) ⟨0, false, 0, List.replicate l.length false, nils l.length, [], []⟩ (minv_0 l acts.length) ⟨rfl, rfl, rfl, trivial⟩ (by simp only [hpS, List.map_nil, List.append_nil]; rfl) ?_
    intro y hy
    repeat (first | refine gG ?_ | refine zN1 (fun hlen => ?_) | refine zN2 (fun hlen => ?_) | refine zAl (fun _ => ?_) | refine zAp (fun _ => ?_))
    refine x_cond rfl (fun h => ?_) (fun h => ?_)
    rotate_left
    · repeat (first | refine gG ?_ | refine zN1 (fun hlen => ?_) | refine zN2 (fun hlen => ?_) | refine zAl (fun _ => ?_) | refine zAp (fun _ => ?_))
      first | refine zR ?_ | refine zQ ?_
      rfl
    have hk' : y.k < acts.length := by simpa using h
    obtain ⟨a, ha⟩ := nth hk'
    have hat := flat_at Acq.ts 4 Acq.ts_len ha
    have hc := hT a.n
    have hin : (l.any fun x => decide (a.n = x)) = decide (a.n ∈ l) := by
      by_cases hm : a.n ∈ l
      · rw [decide_eq_true hm]; exact any_iff.2 hm
      · rw [decide_eq_false hm]
        cases hz : (l.any fun x => decide (a.n = x)) with
        | false => rfl
        | true => exact absurd (any_iff.1 hz) hm
    rw [hin] at hc
    clear h ha hin
    obtain ⟨ak, an, ad, al⟩ := a
    dsimp only at hc hat
    repeat (first | refine ac_seq ?_ | refine ac_block ?_ | refine ac_skip ?_)
    refine x_frame [] _ (List.Perm.refl _) (fun F' => ?_)
    refine ac_region ?_
    repeat (first | refine gO ?_)
    refine zIx y.k hk' ?_
    repeat (first | refine gO ?_)
    refine zEl hat rfl ?_
    repeat (first | refine gO ?_ | refine zAl (fun _ => ?_))
    refine x_frz0 17 [.lit (.int .i64 ak), .lit (.int .i64 an), bytRow ad, intRow al] ?_
    cases d3 : decide ((300 : Int) ≤ ((y.k : Nat) : Int))
    rotate_left
    · repeat (first | refine gG ?_ | refine zN1 (fun hlen => ?_) | refine zN2 (fun hlen => ?_) | refine zAl (fun _ => ?_) | refine zAp (fun _ => ?_))
      first | refine zR ?_ | refine zQ ?_
      rfl
    repeat (first | refine ac_seq ?_ | refine ac_region ?_ | refine zF ?_ | refine ac_skip ?_ | refine gO ?_)
    refine zCall (hc) ?_
    rintro _ rfl
    clear hc hT hat
    repeat (first | refine gO ?_)
    refine ac_seq ?_
    refine ac_region ?_
    repeat (first | refine gO ?_ | refine zN1 (fun hlen => ?_))
    generalize hkk : ((ad.length : Nat) : Int) = kk
    refine ac_seq ?_
    refine x_join (A := { z : MSt // MInv l acts.length z ∧ z.k = y.k }) [4, 12, 13, 20, 21, 22, 23, 102, 103, 104, 105, 106, 107, 108, 109, 110, 111, 112, 113, 114, 115, 116, 117, 118, 119, 120, 121, 122, 123, 124, 125, 126, 127, 128, 129, 130, 131, 132, 133, 134, 135, 136, 137, 138, 139, 140, 141, 142, 143, 144, 145, 146, 147, 148, 149, 150, 151, 152, 153, 154, 155, 156, 157, 158, 159, 160, 161, 162, 163, 164, 165, 166, 167, 168, 169, 170, 171, 172, 173, 174, 175, 176, 177, 178, 179, 180, 181, 182, 183, 184, 185, 186, 187, 188, 189, 190, 191, 192, 193, 194, 195, 196, 197, 198, 199] (fun z => [(12, .c (.lit (.bool z.1.bg))), (13, .c (.lit (.int .i64 z.1.st)))]) (fun z => hpS b l vm vw bo bw z.1) ?_ ?_
    · rintro ⟨z, hz, hzk⟩
      dsimp only
      rw [← hzk] at hk' ⊢
      have hA := all_marked hnd hz
      rw [← ovM_len z.ov] at hA
      have hnx := minv_next hz hk'
      obtain ⟨k, bg, st, m, S, ov, W⟩ := z
      dsimp only at hA hnx hk' ⊢
      cases hall : (bg && !(m.any fun a => !a))
      · have ht := tell_no b l bg st vm vw m hall
        cases bg
        · clear hA hall
          repeat (first | refine ac_seq ?_ | refine ac_block ?_ | refine ac_region ?_ | refine ac_skip ?_ | refine ac_exit ?_ | refine zT ?_ | refine zF ?_ | refine gO ?_ | refine zN1 (fun hlen => ?_))
          refine lo_frame [sdB b l false st vm vw, mkB vm m] _ (List.Perm.refl _) (fun F' => ?_)
          refine zCallG [0, 1] ht ?_
          rintro _ _ ⟨rfl, rfl⟩
          refine ⟨_, _, re_refl, rfl, rfl, ?_⟩
          repeat (first | refine gG ?_ | refine zN1 (fun hlen => ?_) | refine zN2 (fun hlen => ?_) | refine zAl (fun _ => ?_) | refine zAp (fun _ => ?_))
          exact ⟨_, hnx, by simp only; omega, x_wk ⟨rfl, rfl, rfl, trivial⟩ rfl (by repeat (first | exact ag_refl | refine ag_upd rfl ?_ | refine ag_at rfl rfl ?_))⟩
        · have h2 : (m.any fun a => !a) = true := by simpa using hall
          rw [h2] at hA
          clear hall h2
          repeat (first | refine ac_seq ?_ | refine ac_block ?_ | refine ac_region ?_ | refine ac_skip ?_ | refine ac_exit ?_ | refine zT ?_ | refine zF ?_ | refine gO ?_ | refine zN1 (fun hlen => ?_))
          refine lo_frame [sdB b l true st vm vw, mkB vm m] _ (List.Perm.refl _) (fun F' => ?_)
          refine zCallG [0, 1] ht ?_
          rintro _ _ ⟨rfl, rfl⟩
          refine ⟨_, _, re_refl, rfl, rfl, ?_⟩
          repeat (first | refine gG ?_ | refine zN1 (fun hlen => ?_) | refine zN2 (fun hlen => ?_) | refine zAl (fun _ => ?_) | refine zAp (fun _ => ?_))
          refine zMl (kT := 3) (eT := 4) ?_
          repeat (first | refine gG ?_ | refine zN1 (fun hlen => ?_) | refine zN2 (fun hlen => ?_) | refine zAl (fun _ => ?_) | refine zAp (fun _ => ?_))
          exact ⟨_, hnx, by simp only; omega, x_wk ⟨rfl, rfl, rfl, trivial⟩ rfl (by repeat (first | exact ag_refl | refine ag_upd rfl ?_ | refine ag_at rfl rfl ?_))⟩
      · obtain ⟨rfl, h2⟩ : bg = true ∧ (m.any fun a => !a) = false := by simpa using hall
        rw [h2] at hA
        have ht := tell_yes b l st vm vw m S h2 (by rw [hz.sl]; exact h8) hz.s2
        have hsl := hz.sl
        have hsw := @MInv.sw _ _ _ hz
        dsimp only at hsl hsw
        have e1 : decide (((S.length : Nat) : Int) = ((l.length : Nat) : Int)) = true := decide_eq_true (by rw [hsl])
        have e2 : (!decide (((S.length : Nat) : Int) = ((l.length : Nat) : Int))) = false := by rw [e1]; rfl
        have e3 : decide (st = st) = true := decide_eq_true rfl
        have e4 : (!decide (st = st)) = false := by rw [e3]; rfl
        have hmid := perm_mid (a := sdB b l true st vm vw) (b := mkB vm m) (c := owB vw S) (d := Blk.mp bo (mkeys (Value.int .i64) (ovM ov))) (e := Blk.mp bw (mkeys (Value.int .i64) (wayM W))) (S.map inB) ((W.map Prod.snd).map inB)
        rw [← List.map_append] at hmid
        clear hall h2 hz
        repeat (first | refine ac_seq ?_ | refine ac_block ?_ | refine ac_region ?_ | refine ac_skip ?_ | refine ac_exit ?_ | refine zT ?_ | refine zF ?_ | refine gO ?_ | refine zN1 (fun hlen => ?_))
        refine lo_frame _ _ hmid (fun F' => ?_)
        refine zCallAll ht (List.Perm.refl _) ?_
        rintro _ _ ⟨rfl, rfl⟩
        refine ⟨_, re_refl, ?_⟩
        refine al_wk (wk_perm hmid.symm) ?_
        repeat (first | refine gG ?_ | refine zN1 (fun hlen => ?_) | refine zN2 (fun hlen => ?_) | refine zAl (fun _ => ?_) | refine zAp (fun _ => ?_))
        refine zMl (kT := 3) (eT := 4) ?_
        repeat (first | refine gG ?_ | refine zN1 (fun hlen => ?_) | refine zN2 (fun hlen => ?_) | refine zAl (fun _ => ?_) | refine zAp (fun _ => ?_))
        refine x_loop [4, 27, 28, 242, 243, 244, 245, 246, 247, 248, 249, 250, 251, 252, 253, 254, 255, 256] (fun j : Nat => [(242, .c (.lit (.int .i64 (j : Nat))))]) (fun _ => hpS b l vm vw bo bw ⟨k, true, st, m, S, ov, W⟩) (fun j => j ≤ l.length) (fun j => l.length - j) 0 (Nat.zero_le _) ⟨rfl, trivial⟩ rfl ?_
        intro j hj
        repeat (first | refine gG ?_ | refine zN1 (fun hlen => ?_) | refine zN2 (fun hlen => ?_) | refine zAl (fun _ => ?_) | refine zAp (fun _ => ?_))
        refine x_cond rfl (fun h => ?_) (fun h => ?_)
        · have hj' : j < l.length := by simpa using h
          have hjs : j < S.length := by omega
          obtain ⟨p, hp⟩ := nth hj'
          obtain ⟨x, hx⟩ := nth hjs
          have hpt := int_at hp
          have hrt := rowsT_at hx
          have hxw := hsw hp hx
          have hE := eqInt_af x.2 (wget p W)
          rw [decide_eq_true hxw] at hE
          rcases wcase p W with ⟨w1, w2, _, _⟩ | ⟨q, z, w0, w1, w2, _, _⟩
          · rw [w2] at hE
            have hlk : (mget p (wayM W)).getD (.lit (.slice none 0 0)) = .lit (.slice none 0 0) := by rw [w1]; rfl
            clear h hx hp hxw w1 w2 hsw hnx hmid ht
            repeat (first | refine gG ?_ | refine zN1 (fun hlen => ?_) | refine zN2 (fun hlen => ?_) | refine zAl (fun _ => ?_) | refine zAp (fun _ => ?_))
            refine zIx j hj' ?_
            repeat (first | refine gG ?_ | refine zN1 (fun hlen => ?_) | refine zN2 (fun hlen => ?_) | refine zAl (fun _ => ?_) | refine zAp (fun _ => ?_))
            refine zEl1 hpt ?_
            repeat (first | refine gG ?_ | refine zN1 (fun hlen => ?_) | refine zN2 (fun hlen => ?_) | refine zAl (fun _ => ?_) | refine zAp (fun _ => ?_))
            refine ac_draw [1, 1, 1, 1, 1, 1, 1, 1, 1] [0, 1, 2, 3, 4, 5, 6, 7, 8] (by kernel_rfl) (by kernel_rfl) ?_
            refine gW ?_
            apply w_q; (focus exact rfl); (focus exact rfl); focus (intro _; (refine zIx j hjs ?_); exact det_refl)
            apply w_q; (focus exact rfl); (focus exact rfl); focus (intro _; (refine zEl1 hrt ?_); exact det_refl)
            refine gW ?_
            apply w_q; (focus exact rfl); (focus exact rfl); focus (intro _; (refine zLki 3 22 hlk ?_); exact det_refl)
            apply w_q; (focus exact rfl); (focus exact rfl); focus (intro _; (refine zPeek hE ?_; rintro _ rfl; refine ⟨rfl, ?_⟩); exact det_refl)
            refine gW ?_
            refine w_nil ?_
            repeat (first | refine gG ?_ | refine zN1 (fun hlen => ?_) | refine zN2 (fun hlen => ?_) | refine zAl (fun _ => ?_) | refine zAp (fun _ => ?_))
            exact ⟨j + 1, hj', by omega, x_wk ⟨rfl, trivial⟩ rfl (by repeat (first | exact ag_refl | refine ag_upd rfl ?_ | refine ag_at rfl rfl ?_))⟩
          · rw [w2] at hE
            have hlk : (mget p (wayM W)).getD (.lit (.slice none 0 0)) = .lit z.2.1 := by rw [w1]; rfl
            have hrow := way_row (S := S) (a := sdB b l true st vm vw) (b := mkB vm m) (c := owB vw S) (d := Blk.mp bo (mkeys (Value.int .i64) (ovM ov))) (e := Blk.mp bw (mkeys (Value.int .i64) (wayM W))) w0
            clear h hx hp hxw w1 w2 hsw hnx hmid ht
            repeat (first | refine gG ?_ | refine zN1 (fun hlen => ?_) | refine zN2 (fun hlen => ?_) | refine zAl (fun _ => ?_) | refine zAp (fun _ => ?_))
            refine zIx j hj' ?_
            repeat (first | refine gG ?_ | refine zN1 (fun hlen => ?_) | refine zN2 (fun hlen => ?_) | refine zAl (fun _ => ?_) | refine zAp (fun _ => ?_))
            refine zEl1 hpt ?_
            repeat (first | refine gG ?_ | refine zN1 (fun hlen => ?_) | refine zN2 (fun hlen => ?_) | refine zAl (fun _ => ?_) | refine zAp (fun _ => ?_))
            refine ac_draw [1, 1, 1, 1, 1, 1, 1, 1, 1] [0, 1, 2, 3, 4, 5, 6, 7, 8] (by kernel_rfl) (by kernel_rfl) ?_
            refine gW ?_
            apply w_q; (focus exact rfl); (focus exact rfl); focus (intro _; (refine zIx j hjs ?_); exact det_refl)
            apply w_q; (focus exact rfl); (focus exact rfl); focus (intro _; (refine zEl1 hrt ?_); exact det_refl)
            refine gW ?_
            apply w_q; (focus exact rfl); (focus exact rfl); focus (intro _; (refine lo_as (S.length + q + 5) (zLki 3 22 hlk ⟨_, _, _, _, _, rfl, hrow _, ?_⟩)); exact det_refl)
            apply w_q; (focus exact rfl); (focus exact rfl); focus (intro _; (refine zPeek hE ?_ rfl (rz2s_cons (rz2_c rz_c) (rz2s_cons (rz2_own (rz_own (hrow _))) rz2s_nil)); rintro _ rfl; refine ⟨rfl, ?_⟩); exact det_refl)
            refine gW ?_
            refine w_nil ?_
            repeat (first | refine gG ?_ | refine zN1 (fun hlen => ?_) | refine zN2 (fun hlen => ?_) | refine zAl (fun _ => ?_) | refine zAp (fun _ => ?_))
            exact ⟨j + 1, hj', by omega, x_wk ⟨rfl, trivial⟩ rfl (by repeat (first | exact ag_refl | refine ag_upd rfl ?_ | refine ag_at rfl rfl ?_))⟩
        · clear h hsw hmid ht
          repeat (first | refine gG ?_ | refine zN1 (fun hlen => ?_) | refine zN2 (fun hlen => ?_) | refine zAl (fun _ => ?_) | refine zAp (fun _ => ?_))
          exact ⟨_, hnx, by simp only; omega, x_wk ⟨rfl, rfl, rfl, trivial⟩ rfl (by repeat (first | exact ag_refl | refine ag_upd rfl ?_ | refine ag_at rfl rfl ?_))⟩
    obtain ⟨k, bg, st, m, S, ov, W⟩ := y
    dsimp only at hk' d3 ⊢
    have hml := hy.ml
    have hslen := hy.sl
    dsimp only at hml hslen
    clear hn0 hb0 hb1 he hno hn0' d8
    cases d0 : decide (ak = 0)
    rotate_left
    · cases bg
      · repeat (first | refine ac_seq ?_ | refine ac_block ?_ | refine ac_region ?_ | refine ac_skip ?_ | refine ac_exit ?_ | refine zT ?_ | refine zF ?_ | refine gO ?_ | refine zN1 (fun hlen => ?_))
        refine lo_frame [sdB b l false st vm vw] _ (List.Perm.refl _) (fun F' => ?_)
        refine zCallG [0] (begin_no b l st vm vw kk) ?_
        rintro _ _ ⟨rfl, rfl⟩
        refine ⟨_, _, re_refl, rfl, rfl, ?_⟩
        repeat (first | refine ac_seq ?_ | refine ac_block ?_ | refine ac_region ?_ | refine ac_skip ?_ | refine ac_exit ?_ | refine zT ?_ | refine zF ?_ | refine gO ?_ | refine zN1 (fun hlen => ?_))
        exact ⟨⟨⟨k, true, kk, m, S, ov, W⟩, minv_begin hy true kk, rfl⟩, x_wk ⟨rfl, rfl, trivial⟩ rfl (by repeat (first | exact ag_refl | refine ag_upd rfl ?_ | refine ag_at rfl rfl ?_))⟩
      · repeat (first | refine ac_seq ?_ | refine ac_block ?_ | refine ac_region ?_ | refine ac_skip ?_ | refine ac_exit ?_ | refine zT ?_ | refine zF ?_ | refine gO ?_ | refine zN1 (fun hlen => ?_))
        refine lo_frame [sdB b l true st vm vw] _ (List.Perm.refl _) (fun F' => ?_)
        refine zCallG [0] (begin_yes b l st vm vw kk) ?_
        rintro _ _ ⟨rfl, rfl⟩
        refine ⟨_, _, re_refl, rfl, rfl, ?_⟩
        repeat (first | refine ac_seq ?_ | refine ac_block ?_ | refine ac_region ?_ | refine ac_skip ?_ | refine ac_exit ?_ | refine zT ?_ | refine zF ?_ | refine gO ?_ | refine zN1 (fun hlen => ?_))
        exact ⟨⟨⟨k, true, st, m, S, ov, W⟩, hy, rfl⟩, x_wk ⟨rfl, rfl, trivial⟩ rfl (by repeat (first | exact ag_refl | refine ag_upd rfl ?_ | refine ag_at rfl rfl ?_))⟩
    cases d1 : decide (ak = 1)
    rotate_left
    · by_cases hp : an ∈ l
      · obtain ⟨i, hi, hil⟩ := posI_some hp
        have hmo := hy.mo hil
        have dT : decide (an ∈ l) = true := decide_eq_true hp
        have dN : (!decide (an ∈ l)) = false := by rw [dT]; rfl
        dsimp only at hmo
        have hlk := ov_get an ov
        by_cases ho : an ∈ ov
        · rw [decide_eq_true ho] at hmo
          have hlk' : (mget an (ovM ov)).getD (.lit (.bool false)) = .lit (.bool true) := by rw [hlk, if_pos ho]; rfl
          clear hlk
          repeat (first | refine ac_seq ?_ | refine ac_block ?_ | refine ac_region ?_ | refine ac_skip ?_ | refine ac_exit ?_ | refine zT ?_ | refine zF ?_ | refine gO ?_ | refine zN1 (fun hlen => ?_))
          refine lo_frame [sdB b l bg st vm vw, mkB vm m] _ (List.Perm.refl _) (fun F' => ?_)
          refine zCallG [0, 1] (marker_old b l bg st vm vw m an kk i hi hmo) ?_
          rintro _ _ ⟨rfl, rfl⟩
          refine ⟨_, _, re_refl, rfl, rfl, ?_⟩
          repeat (first | refine ac_seq ?_ | refine ac_block ?_ | refine ac_region ?_ | refine ac_skip ?_ | refine ac_exit ?_ | refine zT ?_ | refine zF ?_ | refine gO ?_ | refine zN1 (fun hlen => ?_))
          refine zLki 3 4 hlk' ?_
          repeat (first | refine ac_seq ?_ | refine ac_block ?_ | refine ac_region ?_ | refine ac_skip ?_ | refine ac_exit ?_ | refine zT ?_ | refine zF ?_ | refine gO ?_ | refine zN1 (fun hlen => ?_))
          exact ⟨⟨⟨k, bg, st, m, S, ov, W⟩, hy, rfl⟩, x_wk ⟨rfl, rfl, trivial⟩ rfl (by repeat (first | exact ag_refl | refine ag_upd rfl ?_ | refine ag_at rfl rfl ?_))⟩
        · rw [decide_eq_false ho] at hmo
          have hlk' : (mget an (ovM ov)).getD (.lit (.bool false)) = .lit (.bool false) := by rw [hlk, if_neg ho]; rfl
          clear hlk
          cases bg
          · repeat (first | refine ac_seq ?_ | refine ac_block ?_ | refine ac_region ?_ | refine ac_skip ?_ | refine ac_exit ?_ | refine zT ?_ | refine zF ?_ | refine gO ?_ | refine zN1 (fun hlen => ?_))
            refine lo_frame [sdB b l false st vm vw, mkB vm m] _ (List.Perm.refl _) (fun F' => ?_)
            refine zCallG [0, 1] (marker_new b l false st vm vw m an kk i hi hmo) ?_
            rintro _ _ ⟨rfl, rfl⟩
            refine ⟨_, _, re_refl, rfl, rfl, ?_⟩
            repeat (first | refine ac_seq ?_ | refine ac_block ?_ | refine ac_region ?_ | refine ac_skip ?_ | refine ac_exit ?_ | refine zT ?_ | refine zF ?_ | refine gO ?_ | refine zN1 (fun hlen => ?_))
            refine zLki 3 4 hlk' ?_
            repeat (first | refine ac_seq ?_ | refine ac_block ?_ | refine ac_region ?_ | refine ac_skip ?_ | refine ac_exit ?_ | refine zT ?_ | refine zF ?_ | refine gO ?_ | refine zN1 (fun hlen => ?_))
            refine lo_eqbr (r := false) rfl ?_
            repeat (first | refine ac_seq ?_ | refine ac_block ?_ | refine ac_region ?_ | refine ac_skip ?_ | refine ac_exit ?_ | refine zT ?_ | refine zF ?_ | refine gO ?_ | refine zN1 (fun hlen => ?_))
            refine zUpiS 3 4 (ov_put ho) ?_
            repeat (first | refine ac_seq ?_ | refine ac_block ?_ | refine ac_region ?_ | refine ac_skip ?_ | refine ac_exit ?_ | refine zT ?_ | refine zF ?_ | refine gO ?_ | refine zN1 (fun hlen => ?_))
            exact ⟨⟨⟨k, true, kk, m.set i true, S, ov ++ [an], W⟩, minv_mark hnd hy hil ho true kk, rfl⟩, x_wk ⟨rfl, rfl, trivial⟩ rfl (by repeat (first | exact ag_refl | refine ag_upd rfl ?_ | refine ag_at rfl rfl ?_))⟩
          · repeat (first | refine ac_seq ?_ | refine ac_block ?_ | refine ac_region ?_ | refine ac_skip ?_ | refine ac_exit ?_ | refine zT ?_ | refine zF ?_ | refine gO ?_ | refine zN1 (fun hlen => ?_))
            refine lo_frame [sdB b l true st vm vw, mkB vm m] _ (List.Perm.refl _) (fun F' => ?_)
            refine zCallG [0, 1] (marker_new b l true st vm vw m an kk i hi hmo) ?_
            rintro _ _ ⟨rfl, rfl⟩
            refine ⟨_, _, re_refl, rfl, rfl, ?_⟩
            repeat (first | refine ac_seq ?_ | refine ac_block ?_ | refine ac_region ?_ | refine ac_skip ?_ | refine ac_exit ?_ | refine zT ?_ | refine zF ?_ | refine gO ?_ | refine zN1 (fun hlen => ?_))
            refine zLki 3 4 hlk' ?_
            repeat (first | refine ac_seq ?_ | refine ac_block ?_ | refine ac_region ?_ | refine ac_skip ?_ | refine ac_exit ?_ | refine zT ?_ | refine zF ?_ | refine gO ?_ | refine zN1 (fun hlen => ?_))
            refine lo_eqbr (r := false) rfl ?_
            repeat (first | refine ac_seq ?_ | refine ac_block ?_ | refine ac_region ?_ | refine ac_skip ?_ | refine ac_exit ?_ | refine zT ?_ | refine zF ?_ | refine gO ?_ | refine zN1 (fun hlen => ?_))
            refine zUpiS 3 4 (ov_put ho) ?_
            repeat (first | refine ac_seq ?_ | refine ac_block ?_ | refine ac_region ?_ | refine ac_skip ?_ | refine ac_exit ?_ | refine zT ?_ | refine zF ?_ | refine gO ?_ | refine zN1 (fun hlen => ?_))
            exact ⟨⟨⟨k, true, st, m.set i true, S, ov ++ [an], W⟩, minv_mark hnd hy hil ho true st, rfl⟩, x_wk ⟨rfl, rfl, trivial⟩ rfl (by repeat (first | exact ag_refl | refine ag_upd rfl ?_ | refine ag_at rfl rfl ?_))⟩
      · have dT : decide (an ∈ l) = false := decide_eq_false hp
        have dN : (!decide (an ∈ l)) = true := by rw [dT]; rfl
        repeat (first | refine ac_seq ?_ | refine ac_block ?_ | refine ac_region ?_ | refine ac_skip ?_ | refine ac_exit ?_ | refine zT ?_ | refine zF ?_ | refine gO ?_ | refine zN1 (fun hlen => ?_))
        refine lo_frame [sdB b l bg st vm vw] _ (List.Perm.refl _) (fun F' => ?_)
        refine zCallG [0] (marker_off b l bg st vm vw an kk (posI_none hp)) ?_
        rintro _ _ ⟨rfl, rfl⟩
        refine ⟨_, _, re_refl, rfl, rfl, ?_⟩
        repeat (first | refine ac_seq ?_ | refine ac_block ?_ | refine ac_region ?_ | refine ac_skip ?_ | refine ac_exit ?_ | refine zT ?_ | refine zF ?_ | refine gO ?_ | refine zN1 (fun hlen => ?_))
        exact ⟨⟨⟨k, bg, st, m, S, ov, W⟩, hy, rfl⟩, x_wk ⟨rfl, rfl, trivial⟩ rfl (by repeat (first | exact ag_refl | refine ag_upd rfl ?_ | refine ag_at rfl rfl ?_))⟩
    by_cases hp : an ∈ l
    rotate_left
    · have dT : decide (an ∈ l) = false := decide_eq_false hp
      have dN : (!decide (an ∈ l)) = true := by rw [dT]; rfl
      repeat (first | refine ac_seq ?_ | refine ac_block ?_ | refine ac_region ?_ | refine ac_skip ?_ | refine ac_exit ?_ | refine zT ?_ | refine zF ?_ | refine gO ?_ | refine zN1 (fun hlen => ?_))
      refine lo_frame [sdB b l bg st vm vw] _ (List.Perm.refl _) (fun F' => ?_)
      refine zCallG [0] (message_off b l bg st vm vw an kk (posI_none hp)) ?_
      rintro _ _ ⟨rfl, rfl⟩
      refine ⟨_, _, re_refl, rfl, rfl, ?_⟩
      repeat (first | refine ac_seq ?_ | refine ac_block ?_ | refine ac_region ?_ | refine ac_skip ?_ | refine ac_exit ?_ | refine zT ?_ | refine zF ?_ | refine gO ?_ | refine zN1 (fun hlen => ?_))
      exact ⟨⟨⟨k, bg, st, m, S, ov, W⟩, hy, rfl⟩, x_wk ⟨rfl, rfl, trivial⟩ rfl (by repeat (first | exact ag_refl | refine ag_upd rfl ?_ | refine ag_at rfl rfl ?_))⟩
    obtain ⟨i, hi, hil⟩ := posI_some hp
    have hmo := hy.mo hil
    have dT : decide (an ∈ l) = true := decide_eq_true hp
    have dN : (!decide (an ∈ l)) = false := by rw [dT]; rfl
    dsimp only at hmo
    have hlk := ov_get an ov
    cases bg
    · repeat (first | refine ac_seq ?_ | refine ac_block ?_ | refine ac_region ?_ | refine ac_skip ?_ | refine ac_exit ?_ | refine zT ?_ | refine zF ?_ | refine gO ?_ | refine zN1 (fun hlen => ?_))
      refine lo_frame [sdB b l false st vm vw] _ (List.Perm.refl _) (fun F' => ?_)
      refine zCallG [0] (message_idle b l st vm vw an kk i hi) ?_
      rintro _ _ ⟨rfl, rfl⟩
      refine ⟨_, _, re_refl, rfl, rfl, ?_⟩
      repeat (first | refine ac_seq ?_ | refine ac_block ?_ | refine ac_region ?_ | refine ac_skip ?_ | refine ac_exit ?_ | refine zT ?_ | refine zF ?_ | refine gO ?_ | refine zN1 (fun hlen => ?_))
      exact ⟨⟨⟨k, false, st, m, S, ov, W⟩, hy, rfl⟩, x_wk ⟨rfl, rfl, trivial⟩ rfl (by repeat (first | exact ag_refl | refine ag_upd rfl ?_ | refine ag_at rfl rfl ?_))⟩
    by_cases ho : an ∈ ov
    · rw [decide_eq_true ho] at hmo
      have hlk' : (mget an (ovM ov)).getD (.lit (.bool false)) = .lit (.bool true) := by rw [hlk, if_pos ho]; rfl
      clear hlk
      repeat (first | refine ac_seq ?_ | refine ac_block ?_ | refine ac_region ?_ | refine ac_skip ?_ | refine ac_exit ?_ | refine zT ?_ | refine zF ?_ | refine gO ?_ | refine zN1 (fun hlen => ?_))
      refine zLki 3 4 hlk' ?_
      repeat (first | refine ac_seq ?_ | refine ac_block ?_ | refine ac_region ?_ | refine ac_skip ?_ | refine ac_exit ?_ | refine zT ?_ | refine zF ?_ | refine gO ?_ | refine zN1 (fun hlen => ?_))
      refine zLki 3 4 hlk' ?_
      repeat (first | refine ac_seq ?_ | refine ac_block ?_ | refine ac_region ?_ | refine ac_skip ?_ | refine ac_exit ?_ | refine zT ?_ | refine zF ?_ | refine gO ?_ | refine zN1 (fun hlen => ?_))
      refine lo_frame [sdB b l true st vm vw, mkB vm m] _ (List.Perm.refl _) (fun F' => ?_)
      refine zCallG [0, 1] (message_shut b l st vm vw m an kk i hi hmo) ?_
      rintro _ _ ⟨rfl, rfl⟩
      refine ⟨_, _, re_refl, rfl, rfl, ?_⟩
      repeat (first | refine ac_seq ?_ | refine ac_block ?_ | refine ac_region ?_ | refine ac_skip ?_ | refine ac_exit ?_ | refine zT ?_ | refine zF ?_ | refine gO ?_ | refine zN1 (fun hlen => ?_))
      exact ⟨⟨⟨k, true, st, m, S, ov, W⟩, hy, rfl⟩, x_wk ⟨rfl, rfl, trivial⟩ rfl (by repeat (first | exact ag_refl | refine ag_upd rfl ?_ | refine ag_at rfl rfl ?_))⟩
    rw [decide_eq_false ho] at hmo
    have hlk' : (mget an (ovM ov)).getD (.lit (.bool false)) = .lit (.bool false) := by rw [hlk, if_neg ho]; rfl
    clear hlk
    have hiS : i < S.length := by have := (List.getElem?_eq_some_iff.1 hil).1; omega
    obtain ⟨x, hx⟩ := nth hiS
    have hxw := hy.sw hil hx
    have hx200 := hy.s2 x (List.mem_of_getElem? hx)
    dsimp only at hxw
    rcases wcase an W with ⟨w1, w2, w3, w4⟩ | ⟨q, z, w0, w1, w2, w3, w4⟩
    · rw [w2] at hxw
      have hlkw : (mget an (wayM W)).getD (.lit (.slice none 0 0)) = .lit (.slice none 0 0) := by rw [w1]; rfl
      repeat (first | refine ac_seq ?_ | refine ac_block ?_ | refine ac_region ?_ | refine ac_skip ?_ | refine ac_exit ?_ | refine zT ?_ | refine zF ?_ | refine gO ?_ | refine zN1 (fun hlen => ?_))
      refine zLki 3 4 hlk' ?_
      repeat (first | refine ac_seq ?_ | refine ac_block ?_ | refine ac_region ?_ | refine ac_skip ?_ | refine ac_exit ?_ | refine zT ?_ | refine zF ?_ | refine gO ?_ | refine zN1 (fun hlen => ?_))
      refine zLki 3 22 hlkw ?_
      repeat (first | refine ac_seq ?_ | refine ac_block ?_ | refine ac_region ?_ | refine ac_skip ?_ | refine ac_exit ?_ | refine zT ?_ | refine zF ?_ | refine gO ?_ | refine zN1 (fun hlen => ?_))
      refine zLki 3 4 hlk' ?_
      repeat (first | refine ac_seq ?_ | refine ac_block ?_ | refine ac_region ?_ | refine ac_skip ?_ | refine ac_exit ?_ | refine zT ?_ | refine zF ?_ | refine gO ?_ | refine zN1 (fun hlen => ?_))
      refine ac_draw [0, 0, 0, 1, 1, 1, 1, 1, 1, 2, 2] [0, 1, 2, 3, 4, 5, 6, 7, 8, 9, 10] (by kernel_rfl) (by kernel_rfl) ?_
      refine gW ?_
      apply w_q; (focus exact rfl); (focus exact rfl); focus (intro _; (refine zLki 3 22 hlkw ?_); exact det_refl)
      refine gW ?_
      apply w_l; (focus exact rfl); (focus exact rfl); (refine zApN (fun v1 => ?_))
      apply w_l; (focus exact rfl); (focus exact rfl); (refine zUpiS 3 22 (w3 v1 [kk]) ?_)
      refine w_nil ?_
      refine x_eq (hp' := hpS b l vm vw bo bw ⟨k, true, st, m, S, ov, W ++ [(an, (v1, [kk]))]⟩) (congrArg (fun r => sdB b l true st vm vw :: mkB vm m :: owB vw S :: Blk.mp bo (mkeys (Value.int .i64) (ovM ov)) :: Blk.mp bw (mkeys (Value.int .i64) (wayM (W ++ [(an, (v1, [kk]))]))) :: r) (way_new an v1 kk)) ?_
      repeat (first | refine ac_seq ?_ | refine ac_block ?_ | refine ac_region ?_ | refine ac_skip ?_ | refine gO ?_)
      refine lo_frame _ _ (perm_pull (row_out hx)) (fun F' => ?_)
      refine zCallG [0, 1, 2, 3] (message_put b l st vm vw m S x an kk i hi hmo hx (by rw [hxw]; simp)) ?_
      rintro _ _ ⟨v2, rfl, rfl⟩
      refine ⟨_, _, re_refl, rfl, rfl, ?_⟩
      refine al_wk (wk_perm (perm_pull (row_in hiS (v2, x.2 ++ [kk]))).symm) ?_
      repeat (first | refine ac_seq ?_ | refine ac_block ?_ | refine ac_region ?_ | refine ac_skip ?_ | refine ac_exit ?_ | refine zT ?_ | refine zF ?_ | refine gO ?_ | refine zN1 (fun hlen => ?_))
      exact ⟨⟨⟨k, true, st, m, S.set i (v2, x.2 ++ [kk]), ov, W ++ [(an, (v1, [kk]))]⟩, minv_put hnd hy hil hx (by rw [hxw]; simp) v2 v1 kk (fun r => by rw [w4]; by_cases hr : r = an <;> simp [hr, hxw]), rfl⟩, x_wk ⟨rfl, rfl, trivial⟩ rfl (by repeat (first | exact ag_refl | refine ag_upd rfl ?_ | refine ag_at rfl rfl ?_))⟩
    rw [w2] at hxw
    have hlkw : (mget an (wayM W)).getD (.lit (.slice none 0 0)) = .lit z.2.1 := by rw [w1]; rfl
    have hrow := way_row (S := S) (a := sdB b l true st vm vw) (b := mkB vm m) (c := owB vw S) (d := Blk.mp bo (mkeys (Value.int .i64) (ovM ov))) (e := Blk.mp bw (mkeys (Value.int .i64) (wayM W))) w0
    have hrow0 := hrow []
    rw [List.append_nil] at hrow0
    have hz200 : z.2.2.length ≤ 200 := by rw [← hxw]; exact hx200
    cases dl : decide ((200 : Int) ≤ ((z.2.2.length : Nat) : Int))
    rotate_left
    · have hx2 : x.2.length = 200 := by have := of_decide_eq_true dl; rw [hxw]; omega
      repeat (first | refine ac_seq ?_ | refine ac_block ?_ | refine ac_region ?_ | refine ac_skip ?_ | refine ac_exit ?_ | refine zT ?_ | refine zF ?_ | refine gO ?_ | refine zN1 (fun hlen => ?_))
      refine zLki 3 4 hlk' ?_
      repeat (first | refine ac_seq ?_ | refine ac_block ?_ | refine ac_region ?_ | refine ac_skip ?_ | refine ac_exit ?_ | refine zT ?_ | refine zF ?_ | refine gO ?_ | refine zN1 (fun hlen => ?_))
      refine lo_as (S.length + q + 5) (zLki 3 22 hlkw ⟨_, _, _, _, _, rfl, hrow0, ?_⟩)
      repeat (first | refine ac_seq ?_ | refine ac_block ?_ | refine ac_region ?_ | refine ac_skip ?_ | refine ac_exit ?_ | refine zT ?_ | refine zF ?_ | refine gO ?_ | refine zN1 (fun hlen => ?_))
      refine lo_len_own tok rfl hrow0 rfl rfl (fun _ => ?_)
      repeat (first | refine ac_seq ?_ | refine ac_block ?_ | refine ac_region ?_ | refine ac_skip ?_ | refine ac_exit ?_ | refine zT ?_ | refine zF ?_ | refine gO ?_ | refine zN1 (fun hlen => ?_))
      refine lo_frame _ _ (perm_pull (row_out hx)) (fun F' => ?_)
      refine zCallG [0, 1, 2, 3] (message_full b l st vm vw m S x an kk i hi hmo hx hx2) ?_
      rintro _ _ ⟨rfl, rfl⟩
      refine ⟨_, _, re_refl, rfl, rfl, ?_⟩
      refine al_wk (wk_perm (perm_pull (row_out hx)).symm) ?_
      repeat (first | refine ac_seq ?_ | refine ac_block ?_ | refine ac_region ?_ | refine ac_skip ?_ | refine ac_exit ?_ | refine zT ?_ | refine zF ?_ | refine gO ?_ | refine zN1 (fun hlen => ?_))
      exact ⟨⟨⟨k, true, st, m, S, ov, W⟩, hy, rfl⟩, x_wk ⟨rfl, rfl, trivial⟩ rfl (by repeat (first | exact ag_refl | refine ag_upd rfl ?_ | refine ag_at rfl rfl ?_))⟩
    have hlt : x.2.length < 200 := by have := of_decide_eq_false dl; rw [hxw]; omega
    repeat (first | refine ac_seq ?_ | refine ac_block ?_ | refine ac_region ?_ | refine ac_skip ?_ | refine ac_exit ?_ | refine zT ?_ | refine zF ?_ | refine gO ?_ | refine zN1 (fun hlen => ?_))
    refine zLki 3 4 hlk' ?_
    repeat (first | refine ac_seq ?_ | refine ac_block ?_ | refine ac_region ?_ | refine ac_skip ?_ | refine ac_exit ?_ | refine zT ?_ | refine zF ?_ | refine gO ?_ | refine zN1 (fun hlen => ?_))
    refine lo_as (S.length + q + 5) (zLki 3 22 hlkw ⟨_, _, _, _, _, rfl, hrow0, ?_⟩)
    repeat (first | refine ac_seq ?_ | refine ac_block ?_ | refine ac_region ?_ | refine ac_skip ?_ | refine ac_exit ?_ | refine zT ?_ | refine zF ?_ | refine gO ?_ | refine zN1 (fun hlen => ?_))
    refine lo_len_own tok rfl hrow0 rfl rfl (fun _ => ?_)
    repeat (first | refine ac_seq ?_ | refine ac_block ?_ | refine ac_region ?_ | refine ac_skip ?_ | refine ac_exit ?_ | refine zT ?_ | refine zF ?_ | refine gO ?_ | refine zN1 (fun hlen => ?_))
    refine zLki 3 4 hlk' ?_
    repeat (first | refine ac_seq ?_ | refine ac_block ?_ | refine ac_region ?_ | refine ac_skip ?_ | refine ac_exit ?_ | refine zT ?_ | refine zF ?_ | refine gO ?_ | refine zN1 (fun hlen => ?_))
    refine ac_draw [0, 0, 0, 1, 1, 1, 1, 1, 1, 2, 2] [0, 1, 2, 3, 4, 5, 6, 7, 8, 9, 10] (by kernel_rfl) (by kernel_rfl) ?_
    refine gW ?_
    apply w_q; (focus exact rfl); (focus exact rfl); focus (intro _; (refine lo_as (S.length + q + 5) (zLki 3 22 hlkw ⟨_, _, _, _, _, rfl, hrow _, ?_⟩)); exact det_refl)
    refine gW ?_
    apply w_l; (focus exact rfl); (focus exact rfl); (refine zApS (fun v1 => ?_) tok rfl hrow0)
    apply w_l; (focus exact rfl); (focus exact rfl); (refine zUpiS 3 22 (w3 v1 (z.2.2 ++ [kk])) ?_)
    refine w_nil ?_
    refine x_eq (hp' := hpS b l vm vw bo bw ⟨k, true, st, m, S, ov, W.set q (an, (v1, z.2.2 ++ [kk]))⟩) (congrArg (fun r => sdB b l true st vm vw :: mkB vm m :: owB vw S :: Blk.mp bo (mkeys (Value.int .i64) (ovM ov)) :: Blk.mp bw (mkeys (Value.int .i64) (wayM (W.set q (an, (v1, z.2.2 ++ [kk]))))) :: r) (way_put an v1 z.2.2 kk)) ?_
    repeat (first | refine ac_seq ?_ | refine ac_block ?_ | refine ac_region ?_ | refine ac_skip ?_ | refine gO ?_)
    refine lo_frame _ _ (perm_pull (row_out hx)) (fun F' => ?_)
    refine zCallG [0, 1, 2, 3] (message_put b l st vm vw m S x an kk i hi hmo hx hlt) ?_
    rintro _ _ ⟨v2, rfl, rfl⟩
    refine ⟨_, _, re_refl, rfl, rfl, ?_⟩
    refine al_wk (wk_perm (perm_pull (row_in hiS (v2, x.2 ++ [kk]))).symm) ?_
    repeat (first | refine ac_seq ?_ | refine ac_block ?_ | refine ac_region ?_ | refine ac_skip ?_ | refine ac_exit ?_ | refine zT ?_ | refine zF ?_ | refine gO ?_ | refine zN1 (fun hlen => ?_))
    exact ⟨⟨⟨k, true, st, m, S.set i (v2, x.2 ++ [kk]), ov, W.set q (an, (v1, z.2.2 ++ [kk]))⟩, minv_put hnd hy hil hx hlt v2 v1 kk (fun r => by rw [w4]; by_cases hr : r = an <;> simp [hr, hxw]), rfl⟩, x_wk ⟨rfl, rfl, trivial⟩ rfl (by repeat (first | exact ag_refl | refine ag_upd rfl ?_ | refine ag_at rfl rfl ?_))⟩
end Go.Proofs.Ytdogdjcjmhogmaa
namespace Go.Proofs.Ytdogdjcjmhogmaa
open Go.ChangeShapes Go.WideShapes Go.ChangeAt Go.RowKit Go.Deep
section
variable {H : Type} {enc : TypeId × Value → H} {P : Program} {w : World} {base : Nat} {spare : Nat → Bool} {held : Bool}
theorem bulk_one (d : DataW H) : 1 ≤ Rows.uptoBulk d := by
  cases d with
  | lit l => cases l <;> simp [Rows.uptoBulk]
  | _ => simp [Rows.uptoBulk]
end
end Go.Proofs.Ytdogdjcjmhogmaa
namespace Go.Proofs.Ytdogdjcjmhogmaa
open Go.ChangeShapes Go.WideShapes Go.ChangeAt Go.RowKit
theorem own : ownKnob Try.prog.godebug = none := by kernel_rfl
theorem laidOut : laidOutB Try.prog = true := by kernel_rfl
section
variable {H : Type} {enc : TypeId × Value → H}
theorem trodAll_below {P : Program} (hl : laidOutB P = true) {W W' : World} (hb : Below W.heap.size W W') (ts : List TypeId) : ∀ (vs : List Value) (ds : List (DataW H)) (ps : List MemPlace),
    (ts.all fun t => P.readableRec t && decide (t < P.types.size)) = true → DataW.TrodAll enc P W 0 (fun _ => true) true ts vs ds ps → (∀ x ∈ ps, x.block < W.heap.size) →
    DataW.TrodAll enc P W' 0 (fun b => decide (b < W.heap.size)) true ts vs ds ps := by
  induction ts with
  | nil =>
    intro vs ds ps _ h _
    obtain ⟨rfl, rfl, rfl⟩ := trodAll_nil h
    rfl
  | cons t ts ih =>
    intro vs ds ps hr h hlt
    obtain ⟨v, vs', d, ds', p, q, rfl, rfl, rfl, h0, h1⟩ := trodAll_cons h
    simp only [List.all_cons, Bool.and_eq_true, decide_eq_true_eq] at hr
    refine ⟨p, q, Below.trod hl hr.1.1 hr.1.2 h0 hb fun x hx => hlt x (List.mem_append_left _ hx), ?_, rfl⟩
    exact ih vs' ds' q hr.2 h1 fun x hx => hlt x (List.mem_append_right _ hx)
theorem law_post {f : Func} {s : ChangeSpec} {W W' : World} {args : Array Value} {ds gs : List (DataW H)} {before : List MemPlace}
    (hW : DataW.Whole enc Try.prog f.params.toList s.vars false W args.toList ds gs before) (hv : s.vars = []) (hrt : f.resultTypes = #[4])
    (hr : (f.params.toList.all fun t => Try.prog.readableRec t && decide (t < Try.prog.types.size)) = true)
    (hres : (s.fn H (ds ++ gs)).results = [.lit (.bool true)]) (hargs : (s.fn H (ds ++ gs)).args = ds) (hvars : (s.fn H (ds ++ gs)).vars = []) (hb : Below W.heap.size W W') :
    s.post enc Try.prog f false true false false W args (.bool true) W' := by
  have hlt : ∀ p ∈ before, p.block < W.heap.size := fun p hp => hW.lt p hp
  have hW' := hW
  obtain ⟨p, q, hA, hV, rfl, _, _⟩ := hW'
  rw [hv] at hV
  obtain ⟨rfl, rfl⟩ := trodVars_none hV
  rw [List.append_nil] at hlt
  refine ⟨ds, [], _, [], p, [], hW, ?_, ?_, ?_, hb.frame _ |> World.keptBut_mono (fun x hx => ⟨hx, ?_⟩), fun h => by cases h⟩
  · rw [hrt, hres]
    exact trodAll_mk1 (shut_bool Try.underlying4 true)
  · rw [hargs]
    exact trodAll_below laidOut hb _ _ _ _ hr hA hlt
  · rw [hvars, hv]
    rfl
  · rw [List.append_nil] at hx
    exact .inr (.inl hx)
end
end Go.Proofs.Ytdogdjcjmhogmaa
namespace Go.Proofs.Ytdogdjcjmhogmaa
open Go.ChangeShapes Go.WideShapes Go.ChangeAt Go.RowKit Go.Deep
/-- all memory of a world -/
def memOf (w : World) : Mm := frz (fun _ => none) 0 w
theorem memOf_ok (w : World) : MemOk (memOf w) w := frz_ok (fun p v h => by cases h) 0
theorem memOf_at {w : World} {p : Addr} {v : Value} (h : w.cell? p = some v) (h1 : v.oneCell' = true) : memOf w p = some v := frz_new rfl (Nat.zero_le _) h h1
section
variable {H : Type} {enc : TypeId × Value → H} {P : Program} {w : World} {base : Nat} {spare : Nat → Bool} {held : Bool}
def Opens (enc : TypeId × Value → H) (P : Program) (w : World) (base : Nat) (spare : Nat → Bool) (held : Bool) (t : TypeId) {α : Type} (f : α → List T) (μ : α → Nat) (fuel : Nat) : Prop :=
  ∀ (cs : List Value) (x : DataW H × List MemPlace), DataW.trod enc P w base spare held fuel t cs = some x → ∃ a, RTs (memOf w) (f a) cs ∧ OneAll cs ∧ μ a ≤ Rows.uptoBulk x.1
theorem sum_le {α : Type} (μ : α → Nat) : ∀ (l : List α) (ds : List (DataW H)), l.length = ds.length → (∀ (i : Nat) (a : α) (d : DataW H), l[i]? = some a → ds[i]? = some d → μ a ≤ Rows.uptoBulk d) → (l.map μ).sum ≤ Rows.uptoBulkAll ds
  | [], [], _, _ => by simp [Rows.uptoBulkAll]
  | a :: l, d :: ds, hl, h => by
    have h1 := h 0 a d rfl rfl
    have h2 := sum_le μ l ds (by simpa using hl) fun i a d ha hd => h (i + 1) a d (by simpa using ha) (by simpa using hd)
    simp only [List.map_cons, List.sum_cons, Rows.uptoBulkAll]
    omega
  | [], _ :: _, hl, _ => by simp at hl
  | _ :: _, [], hl, _ => by simp at hl
theorem snoc_ind {α : Type} {p : List α → Prop} (h0 : p []) (h1 : ∀ l x, p l → p (l ++ [x])) (l : List α) : p l := by
  have : ∀ n (l : List α), l.length = n → p l := by
    intro n
    induction n with
    | zero => intro l hl; rw [List.eq_nil_of_length_eq_zero hl]; exact h0
    | succ n ih =>
      intro l hl
      have hne : l ≠ [] := fun e => by rw [e] at hl; cases hl
      rw [← List.dropLast_concat_getLast hne]
      exact h1 _ _ (ih _ (by simp [hl]))
  exact this l.length l rfl
theorem rows_of {α : Type} (f : α → List T) (sz : Nat) (hf : ∀ a, (f a).length = sz) {a : Addr} : ∀ (l : List α) (C : Nat → List Value), (∀ (i : Nat) (x : α), l[i]? = some x → RTs (memOf w) (f x) (C i) ∧ OneAll (C i) ∧ ∀ j u, (C i)[j]? = some u → w.cell? (a.add (i * sz + j)) = some u) →
    ∃ xs : List Value, xs.length = l.length * sz ∧ At (memOf w) a xs ∧ RTs (memOf w) (l.flatMap f) xs := by
  intro l
  induction l using snoc_ind with
  | h0 => exact fun _ _ => ⟨[], by simp, fun j x h => by simp at h, by simp [RTs]⟩
  | h1 l x ih =>
    intro C h
    obtain ⟨xs, h1, h2, h3⟩ := ih C fun i y hy => h i y (by rw [List.getElem?_append_left (List.getElem?_eq_some_iff.1 hy).1]; exact hy)
    obtain ⟨g1, g2, g3⟩ := h l.length x (by simp)
    have hcl := g1.len
    rw [hf] at hcl
    refine ⟨xs ++ C l.length, by simp [h1, hcl, Nat.add_mul], fun j u hu => ?_, ?_⟩
    · rw [List.getElem?_append] at hu
      split at hu
      · exact h2 j u hu
      · have := g3 _ u hu
        rw [show l.length * sz + (j - xs.length) = j by omega] at this
        exact memOf_at this (g2 u (List.mem_of_getElem? hu))
    · rw [List.flatMap_append]
      refine h3.app ?_
      simpa using g1
theorem opens_slice {α : Type} [Inhabited α] {t e : TypeId} (f : α → List T) (μ : α → Nat) (sz : Nat) (hsz : 0 < sz) (hf : ∀ a, (f a).length = sz) {fuel : Nat} (ht : P.underlying t = some (.slice e)) (hC : P.cellsOf e = sz)
    (hel : ∀ n, n < fuel → Opens enc P w base spare held e f μ n) : Opens enc P w base spare held t (fun l : List α => [.row l.length sz (l.flatMap f)]) (fun l => (l.map μ).sum + 1) fuel := by
  intro cs x h
  rcases DataW.trod_slice ht h with ⟨rfl, rfl⟩ | ⟨a, len, cap, elems, rest, n, hn, rfl, rfl, hb, hl, hm, hlen, hi, _, _⟩
  · refine ⟨[], ?_, fun u hu => by simp at hu; subst hu; rfl, by simp [Rows.uptoBulk]⟩
    simp only [RTs]
    exact ⟨_, _, rfl, rt_nil hsz (by simp only [RT]), rfl⟩
  · rw [hC] at hi
    have hv : ∀ i, i < len → ∃ p : α × List Value, (p.2.length = sz ∧ ∀ j u, p.2[j]? = some u → w.cell? (a.add (i * sz + j)) = some u) ∧ RTs (memOf w) (f p.1) p.2 ∧ OneAll p.2 ∧ ∀ y, elems[i]? = some y → μ p.1 ≤ Rows.uptoBulk y.1 := by
      intro i hil
      have hk := hi i hil
      rw [List.getElem?_eq_getElem (by omega)] at hk
      obtain ⟨cs', h1, h2⟩ := Option.bind_eq_some_iff.1 hk
      obtain ⟨el, h3, h4, h5⟩ := hel n (by omega) _ _ h2
      obtain ⟨_, hlen', hcell⟩ := World.cells?_some h1
      refine ⟨(el, cs'), ⟨hlen', fun j u hu => ?_⟩, h3, h4, fun y hy => ?_⟩
      · have hj : j < sz := by rw [← hlen']; exact (List.getElem?_eq_some_iff.1 hu).1
        rw [← hu, ← hcell j hj, add_add']
      · rw [List.getElem?_eq_getElem (by omega)] at hy
        injection hy with hy
        rw [← hy]; exact h5
    obtain ⟨G, hG⟩ := choose_lt (α := α × List Value) hv
    obtain ⟨xs, g1, g2, g3⟩ := rows_of (w := w) (a := a) f sz hf ((List.range len).map fun i => (G i).1) (fun i => (G i).2) (fun i x hx => by
      have hil : i < len := by have := (List.getElem?_eq_some_iff.1 hx).1; simpa using this
      simp [hil] at hx
      obtain ⟨k1, k2, k3, _⟩ := hG i hil
      rw [← hx]
      exact ⟨k2, k3, k1.2⟩)
    refine ⟨(List.range len).map fun i => (G i).1, ?_, fun u hu => by simp at hu; subst hu; rfl, ?_⟩
    · simp only [RTs]
      refine ⟨_, _, rfl, ?_, rfl⟩
      simp only [RT]
      exact ⟨some a, cap, xs, by simp, by simpa using hl, by simp; omega, hsz, g1, fun _ => ⟨a, rfl, g2⟩, g3⟩
    · have := sum_le μ ((List.range len).map fun i => (G i).1) (elems.map (·.1)) (by simp [hlen]) (fun i y d hy hd => by
        have hil : i < len := by have := (List.getElem?_eq_some_iff.1 hy).1; simpa using this
        simp [hil] at hy
        rw [List.getElem?_map] at hd
        obtain ⟨z, hz, rfl⟩ := Option.map_eq_some_iff.1 hd
        rw [← hy]
        exact (hG i hil).2.2.2 z hz)
      simp only [Rows.uptoBulk]
      omega
theorem opens_int {t : TypeId} {k : IntKind} {fuel : Nat} (ht : P.underlying t = some (.int k)) : Opens enc P w base spare held t (fun i : Int => [.lit (.int k i)]) (fun _ => 1) fuel := by
  intro cs x h
  obtain ⟨i, rfl, rfl, _⟩ := DataW.trod_int ht h
  exact ⟨i, by simp [RTs, RT], fun u hu => by simp at hu; subst hu; rfl, bulk_one _⟩
end
/-- from a walk to the call: every law that takes trees and tells true -/
theorem law_call {P : Program} {f : FuncId} {ts : List T} {vs : List Value} {W : World} (h : AF P f ts (· = .lit (.bool true))) (hv : RTs (memOf W) ts vs) (hG : Glob W := by first | assumption | (intro x h; simp [globTab] at h)) : Calls P f vs.toArray W fun e W' => e = .returned (.bool true) ∧ Below W.heap.size W W' :=
  (h.2 (memOf W) W vs hG (memOf_ok W) hv).mono fun e w' ⟨v, r, M', he, hr, _, _, hrt, hb⟩ => by
    subst hr
    simp only [RT] at hrt
    rw [he, hrt]
    exact ⟨rfl, hb⟩
end Go.Proofs.Ytdogdjcjmhogmaa
namespace Go.Proofs.Ytdogdjcjmhogmaa
open Go.ChangeShapes Go.WideShapes Go.ChangeAt Go.RowKit Go.Deep
section
variable {H : Type} {enc : TypeId × Value → H} {P : Program} {w : World} {base : Nat} {spare : Nat → Bool} {held : Bool}
instance : Inhabited UInt8 := ⟨0⟩
theorem opens_u8 {t : TypeId} {fuel : Nat} (ht : P.underlying t = some (.int .u8)) : Opens enc P w base spare held t (fun b : UInt8 => [bytT b]) (fun _ => 1) fuel := by
  intro cs x h
  obtain ⟨i, rfl, rfl, hw⟩ := DataW.trod_int ht h
  have hin : 0 ≤ i ∧ i < 256 := by
    simp [Lit.wf, IntKind.min, IntKind.max, IntKind.bits, IntKind.signed] at hw
    omega
  have hb : (((UInt8.ofNat i.toNat).toNat : Nat) : Int) = i := by
    rw [UInt8.toNat_ofNat', Nat.mod_eq_of_lt (by omega)]
    omega
  exact ⟨UInt8.ofNat i.toNat, by simp only [RTs, RT, bytT, hb]; exact ⟨_, _, rfl, rfl, rfl⟩, fun u hu => by simp at hu; subst hu; rfl, bulk_one _⟩
theorem flat_byt : ∀ l : List UInt8, (l.flatMap fun b => [bytT b]) = byts l
  | [] => rfl
  | b :: l => by simp [byts, flat_byt l]
theorem sum_one {α : Type} : ∀ l : List α, (l.map fun _ => 1).sum = l.length
  | [] => rfl
  | _ :: l => by simp only [List.map_cons, List.sum_cons, sum_one l, List.length_cons]; omega
theorem opensB (fuel : Nat) : Opens enc Try.prog w base spare held 32 (fun l : List UInt8 => [bytRow l]) (fun l => l.length + 1) fuel := by
  intro cs x h
  obtain ⟨l, h1, h2, h3⟩ := opens_slice (fun b : UInt8 => [bytT b]) (fun _ => 1) 1 (by omega) (fun _ => rfl) Try.underlying32 (by kernel_rfl) (fun m _ => opens_u8 Try.underlying5) cs x h
  dsimp only at h1 h3
  rw [flat_byt] at h1
  rw [sum_one] at h3
  exact ⟨l, h1, h2, h3⟩
end
end Go.Proofs.Ytdogdjcjmhogmaa
namespace Go.Proofs.Ytdogdjcjmhogmaa
open Go.ChangeShapes Go.WideShapes Go.ChangeAt Go.RowKit Go.Deep
theorem listQ4 {α : Type} {l : List α} (h : l.length = 4) : ∃ a b c d, l = [a, b, c, d] := match l, h with | [a, b, c, d], _ => ⟨a, b, c, d, rfl⟩
instance : Inhabited Acq := ⟨⟨0, 0, [], []⟩⟩
def Acq.mass (a : Acq) : Nat := a.d.length + a.l.length + 1
theorem rts_seg {M : Mm} {ts us : List T} {cs : List Value} {o c : Nat} (h : RTs M ts ((cs.drop o).take c)) (h' : RTs M us (cs.drop (o + c))) : RTs M (ts ++ us) (cs.drop o) := by
  have := h.app h'
  rwa [← List.drop_drop, List.take_append_drop] at this
theorem rts_end {M : Mm} {cs : List Value} {o : Nat} (h : cs.length = o) : RTs M [] (cs.drop o) := by rw [← h, List.drop_length]; simp [RTs]
theorem one_seg {cs : List Value} {o c : Nat} (h : OneAll ((cs.drop o).take c)) (h' : OneAll (cs.drop (o + c))) : OneAll (cs.drop o) := by
  have := h.app h'
  rwa [← List.drop_drop, List.take_append_drop] at this
theorem one_end {cs : List Value} {o : Nat} (h : cs.length = o) : OneAll (cs.drop o) := by rw [← h, List.drop_length]; intro x hx; simp at hx
section
variable {H : Type} {enc : TypeId × Value → H} {w : World} {base : Nat} {spare : Nat → Bool} {held : Bool}
theorem cn_int : Try.prog.cellsOf 3 = 1 := by kernel_rfl
theorem cn_byts : Try.prog.cellsOf 32 = 1 := by kernel_rfl
theorem cn_ints : Try.prog.cellsOf 22 = 1 := by kernel_rfl
theorem cn_act : Try.prog.cellsOf 34 = 4 := by kernel_rfl
theorem opensInts (fuel : Nat) : Opens enc Try.prog w base spare held 22 (fun l : List Int => [intRow l]) (fun l => l.length + 1) fuel := by
  intro cs x h
  obtain ⟨l, h1, h2, h3⟩ := opens_slice intTs (fun _ => 1) 1 (by omega) (fun _ => rfl) Try.underlying22 cn_int (fun m _ => opens_int Try.underlying3) cs x h
  dsimp only at h1 h3
  rw [sum_one] at h3
  exact ⟨l, h1, h2, h3⟩
theorem opensAcq (fuel : Nat) : Opens enc Try.prog w base spare held 34 Acq.ts Acq.mass fuel := by
  intro cs x h
  obtain ⟨ys, n, hn, rfl, hlen, hyl, hf⟩ := DataW.trod_struct Try.underlying34 h
  rw [cn_act] at hlen
  obtain ⟨y0, y1, y2, y3, rfl⟩ := listQ4 hyl
  have f0 : DataW.trod enc Try.prog w base spare held n 3 ((cs.drop 0).take (Try.prog.cellsOf 3)) = some y0 := hf 0 _ rfl
  rw [cn_int] at f0
  have f1 : DataW.trod enc Try.prog w base spare held n 3 ((cs.drop 1).take (Try.prog.cellsOf 3)) = some y1 := hf 1 _ rfl
  rw [cn_int] at f1
  have f2 : DataW.trod enc Try.prog w base spare held n 32 ((cs.drop 2).take (Try.prog.cellsOf 32)) = some y2 := hf 2 _ rfl
  rw [cn_byts] at f2
  have f3 : DataW.trod enc Try.prog w base spare held n 22 ((cs.drop 3).take (Try.prog.cellsOf 22)) = some y3 := hf 3 _ rfl
  rw [cn_ints] at f3
  obtain ⟨a0, r0, o0, m0⟩ := opens_int Try.underlying3 _ _ f0
  obtain ⟨a1, r1, o1, m1⟩ := opens_int Try.underlying3 _ _ f1
  obtain ⟨a2, r2, o2, m2⟩ := opensB _ _ _ f2
  obtain ⟨a3, r3, o3, m3⟩ := opensInts _ _ _ f3
  refine ⟨⟨a0, a1, a2, a3⟩, ?_, ?_, ?_⟩
  · have := rts_seg r0 (rts_seg r1 (rts_seg r2 (rts_seg r3 (rts_end hlen))))
    simpa [Acq.ts, Acq.mass] using this
  · have := one_seg o0 (one_seg o1 (one_seg o2 (one_seg o3 (one_end hlen))))
    simpa using this
  · simp only [Acq.ts, Acq.mass, List.map_cons, List.map_nil, Rows.uptoBulk, Rows.uptoBulkAll] at m0 m1 m2 m3 ⊢
    omega
theorem opensActs (fuel : Nat) : Opens enc Try.prog w base spare held 23 (fun l : List Acq => [Acq.row l]) (fun l => (l.map Acq.mass).sum + 1) fuel :=
  opens_slice Acq.ts Acq.mass 4 (by omega) Acq.ts_len Try.underlying23 cn_act (fun m _ => opensAcq m)
end
end Go.Proofs.Ytdogdjcjmhogmaa
