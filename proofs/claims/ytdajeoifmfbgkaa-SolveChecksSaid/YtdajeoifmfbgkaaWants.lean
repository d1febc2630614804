/-
  The walks of solve.Wants and roadref5.UsesFault.
-/
import Derived.Test.YtdajeoifmfbgkaaName
import Derived.Test.YtdajeoifmfbgkaaUse
namespace Go.Proofs.Ytdajeoifmfbgkaa
open Go.RowKit

set_option maxRecDepth 100000 in
set_option maxHeartbeats 1000000 in
theorem wants_walk (l : List UseD) (hl : ∀ u ∈ l, u.name.length ≤ 9223372036854775807) (w : World) (S T : Nat → Prop) (A : Option Addr) (n c : Nat) (xs : List Value) (hr : Rs w S 3 A n xs) (hv : RV w T (l.flatMap UseD.dats) xs) :
    Calls Try.prog 49 #[.slice A n c] w fun e w' => e = .returned (.int .i64 (wantsE l)) ∧ Below w.heap.size w w' := by
  have hlen := row_len UseD.dats 3 UseD.dats_len (by omega) hr hv
  by_cases h5 : 5 < n
  · have HE : Hid (wantsE l = 2) := by unfold Hid wantsE; rw [if_pos (by omega)]
    go_enter Try.func49, Try.ntmps49
    go_wp2_with fail
    go_ret
    exact ⟨by rw [HE.out]; rfl, Below.refl _ _⟩
  · have HE : Hid (wantsE l = firstE (l.map useE)) := by unfold Hid wantsE; rw [if_neg (by omega)]
    have hd5 : decide ((5 : Int) < (n : Int)) = false := by simp; omega
    have HL := Lib.hid hlen; have HA := Lib.hid hl
    clear hlen hl
    go_enter Try.func49, Try.ntmps49
    go_wp2_with fail
    go_loopw [10] (fun i wr => ∃ k : Nat, k ≤ n ∧ i = .int .i64 k ∧ Hid (firstE (l.map useE) = firstE ((l.drop k).map useE)) ∧ Below w.heap.size w wr) (fun i _ => n - (intOf i).toNat)
    case atStart => exact ⟨0, Nat.zero_le _, rfl, by simp [Hid], Below.refl _ _⟩
    case round =>
      obtain ⟨k, hk, rfl, HF, hb⟩ := hrel
      by_cases hlt : k < n
      · obtain ⟨ad, u, rfl, hlk, q0, q1, q2⟩ := uses_at (hr.below (by omega) hb) (hv.below hb) hlt
        have hnm := HA.out u (List.mem_of_getElem? hlk)
        have hskip := fun h => Lib.hid ((HF.out).trans (firstE_skip hlk h))
        have hhit := fun h => Lib.hid ((HE.out.trans HF.out).trans (firstE_hit (f := useE) hlk h))
        have HU : Hid (useE u = if nameOk u.name then (if u.low < 1 ∨ 9999 < u.high ∨ u.high < u.low then 1 else 0) else 11) := rfl
        clear hlk
        obtain ⟨nm, lo, hi⟩ := u
        dsimp only at q0 q1 q2 hnm HU
        have hb2 : Below wr.heap.size wr (wr.alloc (.cells #[.string ⟨nm.toArray⟩, .int .i64 lo, .int .i64 hi] 107)) := (Below.refl _ _).alloc (Nat.le_refl _) _
        have hb3 := hb.trans (hb2.mono hb.size)
        cases hok : nameOk nm with
        | false =>
          have HH := hhit (by rw [HU.out, hok]; simp)
          have HU2 : Hid (useE ⟨nm, lo, hi⟩ = 11) := by unfold Hid; rw [HU.out, hok]; rfl
          go_wp2_with (go_at_call 51; refine (name_walk nm _ hnm).mono ?_; rintro e w' ⟨rfl, rfl⟩; rw [hok])
          go_ret
          exact ⟨by rw [HH.out, HU2.out]; rfl, hb3⟩
        | true =>
          by_cases hbad : lo < 1 ∨ 9999 < hi ∨ hi < lo
          · have HU2 : Hid (useE ⟨nm, lo, hi⟩ = 1) := by unfold Hid; rw [HU.out, hok, if_pos rfl, if_pos hbad]
            have HH := hhit (by rw [HU2.out]; simp)
            have hways : lo < 1 ∨ (1 ≤ lo ∧ 9999 < hi) ∨ (1 ≤ lo ∧ hi ≤ 9999 ∧ hi < lo) := by omega
            clear hbad
            rcases hways with h1 | ⟨h1, h2⟩ | ⟨h1, h2, h3⟩
            all_goals
              go_wp2_with (go_at_call 51; refine (name_walk nm _ hnm).mono ?_; rintro e w' ⟨rfl, rfl⟩; rw [hok])
              go_ret
              exact ⟨by rw [HH.out, HU2.out]; rfl, hb3⟩
          · have HU2 : Hid (useE ⟨nm, lo, hi⟩ = 0) := by unfold Hid; rw [HU.out, hok, if_pos rfl, if_neg hbad]
            have HS := hskip (by rw [HU2.out])
            have h1 : 1 ≤ lo := by omega
            have h2 : hi ≤ 9999 := by omega
            have h3 : lo ≤ hi := by omega
            clear hbad
            go_wp2_with (go_at_call 51; refine (name_walk nm _ hnm).mono ?_; rintro e w' ⟨rfl, rfl⟩; rw [hok])
            exact ⟨⟨k + 1, by omega, by go_num, HS.out, hb3⟩, by simp [intOf]; omega⟩
      · have HZ : Hid (firstE ((l.drop k).map useE) = 0) := firstE_end (by rw [HL.out]; omega)
        go_wp2_with fail
        go_ret
        exact ⟨by rw [HE.out, HF.out, HZ.out]; rfl, hb⟩

set_option maxRecDepth 100000 in
set_option maxHeartbeats 1000000 in
theorem usesFault_walk (l : List UseD) (hl : ∀ u ∈ l, u.name.length ≤ 9223372036854775807) (w : World) (S T : Nat → Prop) (A : Option Addr) (n c : Nat) (xs : List Value) (hr : Rs w S 3 A n xs) (hv : RV w T (l.flatMap UseD.dats) xs) :
    Calls Try.prog 50 #[.slice A n c] w fun e w' => e = .returned (.int .i64 (wantsE l)) ∧ Below w.heap.size w w' := by
  have hlen := row_len UseD.dats 3 UseD.dats_len (by omega) hr hv
  by_cases h5 : 5 < n
  · have HE : Hid (wantsE l = 2) := by unfold Hid wantsE; rw [if_pos (by omega)]
    go_enter Try.func50, Try.ntmps50
    go_wp2_with fail
    go_ret
    exact ⟨by rw [HE.out]; rfl, Below.refl _ _⟩
  · have HE : Hid (wantsE l = firstE (l.map useE)) := by unfold Hid wantsE; rw [if_neg (by omega)]
    have hd5 : decide ((5 : Int) < (n : Int)) = false := by simp; omega
    have HL := Lib.hid hlen; have HA := Lib.hid hl
    clear hlen hl
    go_enter Try.func50, Try.ntmps50
    go_wp2_with fail
    go_loopw [10] (fun i wr => ∃ k : Nat, k ≤ n ∧ i = .int .i64 k ∧ Hid (firstE (l.map useE) = firstE ((l.drop k).map useE)) ∧ Below w.heap.size w wr) (fun i _ => n - (intOf i).toNat)
    case atStart => exact ⟨0, Nat.zero_le _, rfl, by simp [Hid], Below.refl _ _⟩
    case round =>
      obtain ⟨k, hk, rfl, HF, hb⟩ := hrel
      by_cases hlt : k < n
      · obtain ⟨ad, u, rfl, hlk, q0, q1, q2⟩ := uses_at (hr.below (by omega) hb) (hv.below hb) hlt
        have hnm := HA.out u (List.mem_of_getElem? hlk)
        have hskip := fun h => Lib.hid ((HF.out).trans (firstE_skip hlk h))
        have hhit := fun h => Lib.hid ((HE.out.trans HF.out).trans (firstE_hit (f := useE) hlk h))
        have HU : Hid (useE u = if nameOk u.name then (if u.low < 1 ∨ 9999 < u.high ∨ u.high < u.low then 1 else 0) else 11) := rfl
        clear hlk
        obtain ⟨nm, lo, hi⟩ := u
        dsimp only at q0 q1 q2 hnm HU
        have hb2 : Below wr.heap.size wr (wr.alloc (.cells #[.string ⟨nm.toArray⟩, .int .i64 lo, .int .i64 hi] 107)) := (Below.refl _ _).alloc (Nat.le_refl _) _
        have hb3 := hb.trans (hb2.mono hb.size)
        cases hok : nameOk nm with
        | false =>
          have HH := hhit (by rw [HU.out, hok]; simp)
          have HU2 : Hid (useE ⟨nm, lo, hi⟩ = 11) := by unfold Hid; rw [HU.out, hok]; rfl
          go_wp2_with (go_at_call 52; refine (modName_walk nm _ hnm).mono ?_; rintro e w' ⟨rfl, hb4⟩; rw [hok]; have e1 := box_kept hb4 1; have e2 := box_kept hb4 2; have hb5 := hb3.trans (hb4.mono (Nat.le_trans hb.size hb2.size)))
          go_ret
          exact ⟨by rw [HH.out, HU2.out]; rfl, hb5⟩
        | true =>
          by_cases hbad : lo < 1 ∨ 9999 < hi ∨ hi < lo
          · have HU2 : Hid (useE ⟨nm, lo, hi⟩ = 1) := by unfold Hid; rw [HU.out, hok, if_pos rfl, if_pos hbad]
            have HH := hhit (by rw [HU2.out]; simp)
            have hways : lo < 1 ∨ (1 ≤ lo ∧ 9999 < hi) ∨ (1 ≤ lo ∧ hi ≤ 9999 ∧ hi < lo) := by omega
            clear hbad
            rcases hways with h1 | ⟨h1, h2⟩ | ⟨h1, h2, h3⟩
            all_goals
              go_wp2_with (go_at_call 52; refine (modName_walk nm _ hnm).mono ?_; rintro e w' ⟨rfl, hb4⟩; rw [hok]; have e1 := box_kept hb4 1; have e2 := box_kept hb4 2; have hb5 := hb3.trans (hb4.mono (Nat.le_trans hb.size hb2.size)))
              go_ret
              exact ⟨by rw [HH.out, HU2.out]; rfl, hb5⟩
          · have HU2 : Hid (useE ⟨nm, lo, hi⟩ = 0) := by unfold Hid; rw [HU.out, hok, if_pos rfl, if_neg hbad]
            have HS := hskip (by rw [HU2.out])
            have h1 : 1 ≤ lo := by omega
            have h2 : hi ≤ 9999 := by omega
            have h3 : lo ≤ hi := by omega
            clear hbad
            go_wp2_with (go_at_call 52; refine (modName_walk nm _ hnm).mono ?_; rintro e w' ⟨rfl, hb4⟩; rw [hok]; have e1 := box_kept hb4 1; have e2 := box_kept hb4 2; have hb5 := hb3.trans (hb4.mono (Nat.le_trans hb.size hb2.size)))
            exact ⟨⟨k + 1, by omega, by go_num, HS.out, hb5⟩, by simp [intOf]; omega⟩
      · have HZ : Hid (firstE ((l.drop k).map useE) = 0) := firstE_end (by rw [HL.out]; omega)
        go_wp2_with fail
        go_ret
        exact ⟨by rw [HE.out, HF.out, HZ.out]; rfl, hb⟩

end Go.Proofs.Ytdajeoifmfbgkaa
