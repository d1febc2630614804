/-
  The walks of solve.Name and roadref5.ModuleName.
-/
import Derived.Test.YtdajeoifmfbgkaaProg
import Derived.Test.YtdajeoifmfbgkaaMem
import Derived.Test.YtdajeoifmfbgkaaNamePlain
import Derived.Deep.DeepCutAuto
import Derived.Deep.CutBlock
namespace Go.Proofs.Ytdajeoifmfbgkaa
open Go.RowKit

theorem ba_get (s : List UInt8) (k : Nat) (h : k < (⟨s.toArray⟩ : ByteArray).size) : ((⟨s.toArray⟩ : ByteArray)[k]'h) = s[k]'h := rfl
attribute [local go_sem] ba_get

set_option maxRecDepth 100000 in
set_option maxHeartbeats 1000000 in
theorem name_walk (s : List UInt8) (w : World) (hs : s.length ≤ 9223372036854775807) :
    Calls Try.prog 51 #[.string ⟨s.toArray⟩] w fun e w' => e = .returned (.bool (nameOk s)) ∧ w = w' := by
  go_enter Try.func51, Try.ntmps51
  go_wp2
  go_loop [8] (fun i => ∃ k : Nat, k ≤ s.length ∧ i = .int .i64 k ∧ Hid (okTo s k)) (fun i => s.length - (intOf i).toNat)
  case atStart => exact ⟨0, Nat.zero_le _, rfl, okTo_zero s⟩
  case round =>
    obtain ⟨k, hk, rfl, HO⟩ := hrel
    by_cases hlt : k < s.length
    · have HO' := fun h => Lib.hid (okTo_succ HO.out hlt h)
      have HB' := fun h => Lib.hid (nameOk_bad hlt h)
      generalize hx : (s[k]).toNat = x at *
      go_upto_region 5 with fail
      have HX := Lib.hid hx
      clear hx
      go_cut [5] (fun t wx => wx = w ∧ t = .bool (decide (97 ≤ x ∧ x ≤ 122)))
      case first =>
        go_wp2_with fail
        all_goals
          go_meet
          refine ⟨rfl, ?_⟩
          congr 1
          rw [Bool.eq_iff_iff]
          simp only [decide_eq_true_eq, Bool.false_eq_true, false_iff]
          omega
      case rest =>
        obtain ⟨rfl, rfl⟩ := hcut
        have hsm : decide (97 ≤ x ∧ x ≤ 122) = true ∨ decide (97 ≤ x ∧ x ≤ 122) = false := by cases decide (97 ≤ x ∧ x ≤ 122) <;> simp
        have HE : Hid (okN k x = (decide (97 ≤ x ∧ x ≤ 122) || (decide (k ≠ 0) && (decide (x = 95) || decide (48 ≤ x ∧ x ≤ 57))))) := rfl
        generalize decide (97 ≤ x ∧ x ≤ 122) = sm at *
        go_upto_region 6 with fail
        go_cut [37] (fun t wx => wx = wc ∧ t = .bool (!okN k x))
        case first =>
          rcases hsm with rfl | rfl
          · go_wp2_with fail
            go_meet
            exact ⟨rfl, by rw [HE.out]; rfl⟩
          · by_cases hk0 : k = 0
            · subst hk0
              go_wp2_with fail
              go_meet
              exact ⟨rfl, by rw [HE.out]; rfl⟩
            · have hkb : ((k : Int) == 0) = false := by simp; omega
              by_cases h95 : x = 95
              · have hxb : ((x : Int) != 95) = false := by simp; omega
                have HE' : Hid (okN k x = true) := by show okN k x = true; rw [HE.out]; simp [hk0, h95]
                clear h95
                go_wp2_with fail
                go_meet
                exact ⟨rfl, by rw [HE'.out]; rfl⟩
              · have hxb : ((x : Int) != 95) = true := by simp; omega
                go_wp2_with fail
                all_goals
                  go_meet
                  refine ⟨rfl, ?_⟩
                  rw [HE.out]
                  congr 1
                  rw [Bool.eq_iff_iff]
                  simp [hk0, h95]
                  omega
        case rest =>
          obtain ⟨rfl, rfl⟩ := hcut
          cases hok : okN k x with
          | true =>
            have HS := HO' hok
            clear hok
            go_wp2_with fail
            go_round
            case rel => exact ⟨k + 1, by omega, by go_num, HS.out⟩
            case measure => simp [intOf]; omega
          | false =>
            have HB := HB' hok
            clear hok
            go_wp2_with fail
            go_ret
            exact ⟨by rw [HB.out]; rfl, rfl⟩
    · have hkl : k = s.length := by omega
      have HO2 : Hid (okTo s s.length) := by rw [← hkl]; exact HO.out
      clear hkl HO
      by_cases h0 : s = []
      · subst h0
        go_wp2_with fail
        go_ret
        exact ⟨by rw [nameOk_nil]; rfl, rfl⟩
      · have hemp : (!s.isEmpty) = true := by cases s <;> simp_all
        by_cases h16 : s.length ≤ 16
        · have HB := Lib.hid (nameOk_yes h0 h16 HO2.out)
          have hd : decide ((s.length : Int) ≤ 16) = true := by simp; omega
          go_wp2_with fail
          go_ret
          exact ⟨by rw [HB.out]; rfl, rfl⟩
        · have HB := Lib.hid (nameOk_long (s := s) (by omega))
          have hd : decide ((s.length : Int) ≤ 16) = false := by simp; omega
          go_wp2_with fail
          go_ret
          exact ⟨by rw [HB.out]; rfl, rfl⟩

set_option maxRecDepth 100000 in
set_option maxHeartbeats 1000000 in
theorem modName_walk (s : List UInt8) (w : World) (hs : s.length ≤ 9223372036854775807) :
    Calls Try.prog 52 #[.string ⟨s.toArray⟩] w fun e w' => e = .returned (.bool (nameOk s)) ∧ Below w.heap.size w w' := by
  by_cases h0 : s = []
  · subst h0
    go_enter Try.func52, Try.ntmps52
    go_wp2_with fail
    go_ret
    exact ⟨by rw [nameOk_nil]; rfl, Below.refl _ _⟩
  · have hemp : s.isEmpty = false := by cases s <;> simp_all
    by_cases h16 : 16 < s.length
    · have HB := Lib.hid (nameOk_long h16)
      go_enter Try.func52, Try.ntmps52
      go_wp2_with fail
      go_ret
      exact ⟨by rw [HB.out]; rfl, Below.refl _ _⟩
    · obtain ⟨c3, w3, hcv, hc3, hr3, hb3⟩ := run_bytes_rd (P := Try.prog) w 9 22 5 s Try.underlying9 Try.underlying22 Try.underlying5
      have H0 := Lib.hid h0
      have hd16 : decide ((16 : Int) < (s.length : Int)) = false := by simp; omega
      clear h0
      go_enter Try.func52, Try.ntmps52
      go_wp2_with fail
      go_loop [16] (fun i => ∃ k : Nat, k ≤ s.length ∧ i = .int .i64 k ∧ Hid (okTo s k)) (fun i => s.length - (intOf i).toNat)
      case atStart => exact ⟨0, Nat.zero_le _, rfl, okTo_zero s⟩
      case round =>
        obtain ⟨k, hk, rfl, HO⟩ := hrel
        by_cases hlt : k < s.length
        · have HO' := fun h => Lib.hid (okTo_succ HO.out hlt h)
          have HB' := fun h => Lib.hid (nameOk_bad hlt h)
          obtain ⟨ad, e, -, hcell⟩ := hr3.get hlt
          obtain rfl : ad = ⟨w.heap.size, 0, none⟩ := by injection e with e; exact e.symm
          rw [bvs_get] at hcell
          have hcell' : w3.cell? ⟨w.heap.size, k, none⟩ = some (.int .u8 ((s[k]).toNat : Int)) := by
            rw [← hcell]; congr 1; unfold Addr.add; split <;> simp_all
          clear hcell
          generalize hx : (s[k]).toNat = x at *
          go_upto_region 6 with fail
          have HX := Lib.hid hx
          clear hx
          go_cut [5] (fun t wx => wx = w3 ∧ t = .bool (decide (97 ≤ x ∧ x ≤ 122)))
          case first =>
            go_wp2_with fail
            all_goals
              go_meet
              refine ⟨rfl, ?_⟩
              congr 1
              rw [Bool.eq_iff_iff]
              simp only [decide_eq_true_eq, Bool.false_eq_true, false_iff]
              omega
          case rest =>
            obtain ⟨rfl, rfl⟩ := hcut
            have hsm : decide (97 ≤ x ∧ x ≤ 122) = true ∨ decide (97 ≤ x ∧ x ≤ 122) = false := by cases decide (97 ≤ x ∧ x ≤ 122) <;> simp
            have HE : Hid (okN k x = (decide (97 ≤ x ∧ x ≤ 122) || (decide (k ≠ 0) && (decide (x = 95) || decide (48 ≤ x ∧ x ≤ 57))))) := rfl
            generalize decide (97 ≤ x ∧ x ≤ 122) = sm at *
            go_upto_region 7 with fail
            go_cut [44] (fun t wx => wx = wc ∧ t = .bool (!okN k x))
            case first =>
              rcases hsm with rfl | rfl
              · go_wp2_with fail
                go_meet
                exact ⟨rfl, by rw [HE.out]; rfl⟩
              · by_cases hk0 : k = 0
                · subst hk0
                  go_wp2_with fail
                  go_meet
                  exact ⟨rfl, by rw [HE.out]; rfl⟩
                · have hkb : ((k : Int) == 0) = false := by simp; omega
                  by_cases h95 : x = 95
                  · have hxb : ((x : Int) != 95) = false := by simp; omega
                    have HE' : Hid (okN k x = true) := by show okN k x = true; rw [HE.out]; simp [hk0, h95]
                    clear h95
                    go_wp2_with fail
                    go_meet
                    exact ⟨rfl, by rw [HE'.out]; rfl⟩
                  · have hxb : ((x : Int) != 95) = true := by simp; omega
                    go_wp2_with fail
                    all_goals
                      go_meet
                      refine ⟨rfl, ?_⟩
                      rw [HE.out]
                      congr 1
                      rw [Bool.eq_iff_iff]
                      simp [hk0, h95]
                      omega
            case rest =>
              obtain ⟨rfl, rfl⟩ := hcut
              cases hok : okN k x with
              | true =>
                have HS := HO' hok
                clear hok
                go_wp2_with fail
                go_round
                case rel => exact ⟨k + 1, by omega, by go_num, HS.out⟩
                case measure => simp [intOf]; omega
              | false =>
                have HB := HB' hok
                clear hok
                go_wp2_with fail
                go_ret
                exact ⟨by rw [HB.out]; rfl, hb3⟩
        · have hkl : k = s.length := by omega
          have HB := Lib.hid (nameOk_yes H0.out (by omega) (by rw [← hkl]; exact HO.out : okTo s s.length))
          clear hkl HO
          go_wp2_with fail
          go_ret
          exact ⟨by rw [HB.out]; rfl, hb3⟩

end Go.Proofs.Ytdajeoifmfbgkaa
