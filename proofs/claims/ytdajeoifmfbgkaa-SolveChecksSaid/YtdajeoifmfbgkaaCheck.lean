/-
  The walk of solve.Check.
-/
import Derived.Test.YtdajeoifmfbgkaaWants
import Derived.Test.YtdajeoifmfbgkaaReg
import Derived.StillTailTactics
import Derived.Deep.QuietTactic
import Derived.BigQuiet
import Derived.Deep.DeepCutAuto
import Derived.Deep.CutBlock
namespace Go.Proofs.Ytdajeoifmfbgkaa
open Go.RowKit

def CheckRel (w : World) (l : List ModD) (i : Value) (wr : World) : Prop :=
  ∃ k : Nat, k ≤ l.length ∧ i = .int .i64 k ∧ firstE ((List.range l.length).map (errAt l)) = firstE (((List.range l.length).drop k).map (errAt l)) ∧ (∀ p, 0 < k → l[k - 1]? = some p → modE p = 0) ∧ Below w.heap.size w wr

set_option maxRecDepth 100000 in
set_option maxHeartbeats 1000000 in
theorem check_walk (l : List ModD) (hl : ∀ m ∈ l, m.name.length ≤ 9223372036854775807 ∧ ∀ u ∈ m.uses, u.name.length ≤ 9223372036854775807) (w : World) (S T : Nat → Prop) (A : Option Addr) (n c : Nat) (xs : List Value) (hr : Rs w S 3 A n xs) (hv : RV w T (l.flatMap ModD.dats) xs) :
    Calls Try.prog 47 #[.slice A n c] w fun e w' => e = .returned (.int .i64 (regE l)) ∧ Below w.heap.size w w' := by
  have hlen := row_len ModD.dats 3 ModD.dats_len (by omega) hr hv
  by_cases h30 : 30 < n
  · have HE : Hid (regE l = 2) := by unfold Hid regE; rw [if_pos (by omega)]
    go_enter Try.func47, Try.ntmps47
    go_wp2_with fail
    go_ret
    exact ⟨by rw [HE.out]; rfl, Below.refl _ _⟩
  · have HE : Hid (regE l = firstE ((List.range l.length).map (errAt l))) := by unfold Hid regE; rw [if_neg (by omega)]
    have hd30 : decide ((30 : Int) < (n : Int)) = false := by simp; omega
    have HL := Lib.hid hlen; have HA := Lib.hid hl
    clear hlen hl
    go_enter Try.func47, Try.ntmps47
    go_wp2_with fail
    go_loopw [11] (fun i wr => CheckRel w l i wr) (fun i _ => n - (intOf i).toNat)
    case atStart => exact ⟨0, Nat.zero_le _, rfl, by simp, fun _ h => absurd h (by omega), Below.refl _ _⟩
    case round =>
      obtain ⟨k, hk, rfl, hF, hP, hb⟩ := hrel
      have HF := Lib.hid hF; have HP := Lib.hid hP
      clear hF hP
      by_cases hlt : k < n
      · obtain ⟨ad, u, A', n', c', ys, rfl, hlk, q0, q1, q2, hc', hn', r1, v1⟩ := mods_at (hr.below (by omega) hb) (hv.below hb) hlt
        have hnm := (HA.out u (List.mem_of_getElem? hlk)).1
        have hus := Lib.hid (HA.out u (List.mem_of_getElem? hlk)).2
        have hrk : (List.range l.length)[k]? = some k := by rw [List.getElem?_range (by rw [HL.out]; exact hlt)]
        have hskip := fun h => Lib.hid ((HF.out).trans (firstE_skip (f := errAt l) hrk h))
        have hhit := fun h => Lib.hid ((HE.out.trans HF.out).trans (firstE_hit (f := errAt l) hrk h))
        have HK := Lib.hid hlk
        have HM : Hid (modE u = if nameOk u.name then (if u.version < 1 ∨ 9999 < u.version then 1 else wantsE u.uses) else 11) := rfl
        clear hlk hrk
        obtain ⟨nm, ver, us⟩ := u
        dsimp only at q0 q1 hnm HM hus v1 hn'
        subst hn'
        have hb2 : Below wr.heap.size wr (wr.alloc (.cells #[.string ⟨nm.toArray⟩, .int .i64 ver, .slice A' us.length c'] 100)) := (Below.refl _ _).alloc (Nat.le_refl _) _
        have hb3 := hb.trans (hb2.mono hb.size)
        have r2 := r1.below (by omega) hb2
        have v2 := v1.below hb2
        cases hok : nameOk nm with
        | false =>
          have HM2 : Hid (modE ⟨nm, ver, us⟩ = 11) := by unfold Hid; rw [HM.out, hok]; rfl
          have HH := hhit (by rw [errAt_mod HK.out (by rw [HM2.out]; simp), HM2.out]; simp)
          have HH2 : Hid (errAt l k = 11) := by unfold Hid; rw [errAt_mod HK.out (by rw [HM2.out]; simp), HM2.out]
          go_wp2_with (go_at_call 51; refine (name_walk nm _ hnm).mono ?_; rintro e w' ⟨rfl, rfl⟩; rw [hok])
          go_ret
          exact ⟨by rw [HH.out, HH2.out]; rfl, hb3⟩
        | true =>
          by_cases hbad : ver < 1 ∨ 9999 < ver
          · have HM2 : Hid (modE ⟨nm, ver, us⟩ = 1) := by unfold Hid; rw [HM.out, hok, if_pos rfl, if_pos hbad]
            have HH := hhit (by rw [errAt_mod HK.out (by rw [HM2.out]; simp), HM2.out]; simp)
            have HH2 : Hid (errAt l k = 1) := by unfold Hid; rw [errAt_mod HK.out (by rw [HM2.out]; simp), HM2.out]
            have hways : ver < 1 ∨ (1 ≤ ver ∧ 9999 < ver) := by omega
            clear hbad
            rcases hways with h1 | ⟨h1, h2⟩
            all_goals
              go_wp2_with (go_at_call 51; refine (name_walk nm _ hnm).mono ?_; rintro e w' ⟨rfl, rfl⟩; rw [hok])
              go_ret
              exact ⟨by rw [HH.out, HH2.out]; rfl, hb3⟩
          · have h1 : 1 ≤ ver := by omega
            have h2 : ver ≤ 9999 := by omega
            have HM2 : Hid (modE ⟨nm, ver, us⟩ = wantsE us) := by unfold Hid; rw [HM.out, hok, if_pos rfl, if_neg hbad]
            clear hbad
            by_cases hwe : wantsE us = 0
            · have HM3 : Hid (modE ⟨nm, ver, us⟩ = 0) := by unfold Hid; rw [HM2.out, hwe]
              have hP2 : Hid (∀ p, 0 < k + 1 → l[k + 1 - 1]? = some p → modE p = 0) := by
                intro p _ hp
                rw [Nat.add_sub_cancel, HK.out] at hp
                injection hp with hp
                rw [← hp]; exact HM3.out
              have HW := Lib.hid hwe
              clear hwe
              go_upto_region 13 with (first
                | (go_at_call 51; refine (name_walk nm _ hnm).mono ?_; rintro e w' ⟨rfl, rfl⟩; rw [hok])
                | (go_at_call 49; refine (wants_walk us hus.out _ _ _ _ _ _ _ r2 v2).mono ?_; rintro e w1 ⟨rfl, hb4⟩; rw [HW.out]; have hb5 := hb3.trans (hb4.mono (Nat.le_trans hb.size hb2.size)); have hb6 := hb2.trans (hb4.mono hb2.size)))
              by_cases hk0 : k = 0
              · subst hk0
                have HH := hskip (errAt_zero HK.out HM3.out)
                clear q0 q1 q2
                go_quiet (fail)
                go_wp2_with fail
                exact ⟨⟨1, by have := HL.out; omega, rfl, HH.out, hP2.out, ⟨hb5.os, hb5.tape, hb5.output, hb5.size, hb5.block⟩⟩, by simp [intOf]; omega⟩
              · obtain ⟨ad', pv, Ap, np, cp, yp, e', hlp, p0, p1, p2, -, -, -, -⟩ := mods_at (k := k - 1) (hr.below (by omega) hb5) (hv.below hb5) (by omega)
                obtain rfl : ad = ad' := by injection e'
                have HO := Lib.hid (errAt_ord HK.out HM3.out (by omega) hlp)
                have hpv := modE_ver (HP.out _ (by omega) hlp)
                obtain ⟨pnm, pver, pus⟩ := pv
                dsimp only at p0 p1 hpv
                have hs0 := hskip; have hh0 := hhit
                clear q0 q1 q2 p2 e' hlp hskip hhit
                have b0 := box_kept hb4 0
                have b1 := box_kept hb4 1
                have g0 : 0 < k := by omega
                have g1 : (k : Int) - 1 < (n : Int) := by omega
                have g2 : (1 : Int) ≤ (k : Int) := by omega
                replace b0 : w1.drew.cell? ⟨wr.heap.size, 0, none⟩ = some (.string ⟨nm.toArray⟩) := b0
                replace b1 : w1.drew.cell? ⟨wr.heap.size, 1, none⟩ = some (.int .i64 ver) := b1
                replace p0 : w1.drew.cell? (ad.add ((k - 1) * 3)) = some (.string ⟨pnm.toArray⟩) := p0
                replace p1 : w1.drew.cell? { block := (ad.add ((k - 1) * 3)).block, off := (ad.add ((k - 1) * 3)).off + 1 } = some (.int .i64 pver) := p1
                replace hb5 : Below w.heap.size w w1.drew := hb5.drew
                refine wp_region_still_tail 21 (by kernel_rfl) (by kernel_rfl) ?_
                change wpStill _ _ w1.drew (fun a' => wpList _ _ _ _ a' w1.drew) _ _
                generalize w1.drew = w2 at *
                simp only [List.take_succ_cons, List.take_zero, List.drop_succ_cons, List.drop_zero]
                have k1 : IntKind.i64.wrap ((k : Int) - 1) = (k : Int) - 1 := IntWalk.i64_in _ (by omega)
                have k2 : ((k : Int) - 1).toNat = k - 1 := by omega
                repeat still_step
                still_call (cmp_walk nm pnm _)
                have HOB := Lib.hid (ordBad_or ⟨pnm, pver, pus⟩ ⟨nm, ver, us⟩)
                generalize hce : cmpE nm pnm = ce at *
                repeat still_step
                refine wpStill_nil ?_
                clear k1 k2
                have hr7 := Rd.fresh w2 3 #[.int .i64 ce, .int .i64 (ver - pver)]
                have hb7 : Below w.heap.size w (w2.alloc (.cells #[.int .i64 ce, .int .i64 (ver - pver)] 3)) := hb5.alloc hb5.size _
                go_wp2_with fail
                (with_reducible refine (or_walk ce (ver - pver) _ _ _ _ hr7).mono ?_)
                rintro e w' ⟨rfl, rfl⟩
                generalize orE ce (ver - pver) = oe at *
                clear hce b0 b1 p0 p1
                by_cases hoe : oe ≤ 0
                · have HX : Hid (errAt l k = 21) := by unfold Hid; rw [HO.out, HOB.out, if_pos (by simp [hoe])]
                  have HH := hh0 (by rw [HX.out]; simp)
                  go_wp2_with fail
                  go_ret
                  exact ⟨by rw [HH.out, HX.out]; rfl, hb7⟩
                · have HX : Hid (errAt l k = 0) := by unfold Hid; rw [HO.out, HOB.out, if_neg (by simp [hoe])]
                  have HH := hs0 HX.out
                  go_wp2_with fail
                  exact ⟨⟨k + 1, by have := HL.out; omega, by go_num, HH.out, hP2.out, hb7⟩, by simp [intOf]; omega⟩
            · have HH := hhit (by rw [errAt_mod HK.out (by rw [HM2.out]; exact hwe), HM2.out]; exact hwe)
              have HH2 : Hid (errAt l k = wantsE us) := by unfold Hid; rw [errAt_mod HK.out (by rw [HM2.out]; exact hwe), HM2.out]
              have hne : (wantsE us != 0) = true := by simp [hwe]
              generalize hwv : wantsE us = we at *
              have HW := Lib.hid hwv
              clear hwe hwv
              go_wp2_with (first
                | (go_at_call 51; refine (name_walk nm _ hnm).mono ?_; rintro e w' ⟨rfl, rfl⟩; rw [hok])
                | (go_at_call 49; refine (wants_walk us hus.out _ _ _ _ _ _ _ r2 v2).mono ?_; rintro e w' ⟨rfl, hb4⟩; rw [HW.out]; have hb5 := hb3.trans (hb4.mono (Nat.le_trans hb.size hb2.size))))
              go_ret
              exact ⟨by rw [HH.out, HH2.out]; rfl, hb5⟩
      · have HZ : Hid (firstE (((List.range l.length).drop k).map (errAt l)) = 0) := firstE_end (by rw [List.length_range, HL.out]; omega)
        go_wp2_with fail
        go_ret
        exact ⟨by rw [HE.out, HF.out, HZ.out]; rfl, hb⟩

end Go.Proofs.Ytdajeoifmfbgkaa
