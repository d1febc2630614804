/-
  The walks of roadlaw5.samePieces and roadlaw5.sameBytes, where both sides read alike.
-/
import Derived.Test.YtdajeoifmfbgkaaClone
import Derived.Test.YtdajeoifmfbgkaaCutPlain
namespace Go.Proofs.Ytdajeoifmfbgkaa
open Go.RowKit

set_option maxRecDepth 100000 in
set_option maxHeartbeats 400000 in
theorem piece_walk (A : Option Addr) (n c : Nat) (xs : List UInt8) (w : World) (B : Nat) (hr : Rd w B 1 A n (bvs xs)) :
    Calls Try.prog 88 #[.slice A n c, .string ⟨xs.toArray⟩] w fun e w' => e = .returned (.bool true) ∧ w = w' := by
  have hcv := fun cc => run_string_rd (P := Try.prog) 22 9 5 Try.underlying22 Try.underlying5 Try.underlying9 cc hr
  go_enter Try.func88, Try.ntmps88
  go_wp2_with fail
  go_ret
  exact ⟨rfl, rfl⟩

set_option maxRecDepth 100000 in
set_option maxHeartbeats 400000 in
theorem sameBytes_walk (A : Option Addr) (n c : Nat) (xs : List UInt8) (A' : Option Addr) (n' c' : Nat) (w : World) (B B' : Nat) (hr : Rd w B 1 A n (bvs xs)) (hr' : Rd w B' 1 A' n' (bvs xs)) :
    Calls Try.prog 22 #[.slice A n c, .slice A' n' c'] w fun e w' => e = .returned (.bool true) ∧ w = w' := by
  have hcv := fun cc => run_string_rd (P := Try.prog) 22 9 5 Try.underlying22 Try.underlying5 Try.underlying9 cc hr
  have hcv' := fun cc => run_string_rd (P := Try.prog) 22 9 5 Try.underlying22 Try.underlying5 Try.underlying9 cc hr'
  go_enter Try.func22, Try.ntmps22
  go_wp2_with fail
  go_ret
  exact ⟨rfl, rfl⟩

set_option maxRecDepth 100000 in
set_option maxHeartbeats 400000 in
theorem samePieces_walk (A : Option Addr) (n c : Nat) (vs : List Value) (A' : Option Addr) (n' c' : Nat) (xss : List (List UInt8)) (w : World) (B B' : Nat) (hr : Rd w B 1 A n vs) (hl : RdAll w B vs xss) (hr' : Rd w B' 1 A' n' (svs xss)) (hn : n ≤ 1048576) :
    Calls Try.prog 20 #[.slice A n c, .slice A' n' c'] w fun e w' => e = .returned (.bool true) ∧ w = w' := by
  have hlen : xss.length = n := by rw [← hl.1]; exact hr.len
  obtain rfl : n' = n := by rw [← hr'.len, svs_len, hlen]
  have HL := Lib.hid hlen; clear hlen
  go_enter Try.func20, Try.ntmps20
  go_wp2
  go_loop [17] (fun i => ∃ k : Nat, k ≤ n' ∧ i = .int .i64 k) (fun i => n' - (intOf i).toNat)
  case atStart => exact ⟨0, Nat.zero_le _, rfl⟩
  case round =>
    obtain ⟨k, hk, rfl⟩ := hrel
    by_cases hlt : k < n'
    · have hkl : k < xss.length := by have := HL.out; omega
      obtain ⟨ad, rfl, -, hcell⟩ := hr.get hlt
      obtain ⟨ad', rfl, -, hcell'⟩ := hr'.get hlt
      obtain ⟨A2, c2, e2, -, hr2⟩ := hl.2 k hkl
      have hcell2 : w.cell? (ad.add k) = some (.slice A2 (xss[k]).length c2) := by
        rw [hcell]
        rw [List.getElem?_eq_getElem (by rw [hl.1]; exact hkl)] at e2
        exact e2
      rw [svs_get] at hcell'
      unfold sv at hcell'
      clear hcell e2
      generalize xss[k] = x at *
      go_wp2_with (go_at_call 88; refine (piece_walk _ _ _ x _ _ hr2).mono ?_; rintro e w' ⟨rfl, rfl⟩)
      go_round
      case rel => exact ⟨k + 1, by omega, by go_num⟩
      case measure => simp [intOf]; omega
    · go_wp2_with fail
      go_ret
      exact ⟨rfl, rfl⟩

end Go.Proofs.Ytdajeoifmfbgkaa
