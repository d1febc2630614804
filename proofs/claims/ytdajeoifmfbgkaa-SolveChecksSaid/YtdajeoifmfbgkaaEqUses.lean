/-
  The walk of slices.Equal at api.Use, where both sides read alike.
-/
import Derived.Test.YtdajeoifmfbgkaaUse
import Derived.Test.YtdajeoifmfbgkaaProg
import Derived.Deep.QuietTactic
import Derived.BigQuiet
namespace Go.Proofs.Ytdajeoifmfbgkaa
open Go.RowKit

set_option maxRecDepth 100000 in
set_option maxHeartbeats 400000 in
theorem eqUses_walk (l : List UseD) (w : World) (S S' T T' : Nat → Prop) (A A' : Option Addr) (n c n' c' : Nat) (xs ys : List Value) (hr : Rs w S 3 A n xs) (hv : RV w T (l.flatMap UseD.dats) xs) (hr' : Rs w S' 3 A' n' ys) (hv' : RV w T' (l.flatMap UseD.dats) ys) (hn : n ≤ 4398046511104) :
    Calls Try.prog 53 #[.slice A n c, .slice A' n' c'] w fun e w' => e = .returned (.bool true) ∧ Below w.heap.size w w' := by
  have hlen := row_len UseD.dats 3 UseD.dats_len (by omega) hr hv
  have hlen' := row_len UseD.dats 3 UseD.dats_len (by omega) hr' hv'
  obtain rfl : n' = n := by omega
  have HL := Lib.hid hlen
  clear hlen hlen'
  go_enter Try.func53, Try.ntmps53
  go_wp2
  go_loopw [13] (fun i wr => ∃ k : Nat, k ≤ n' ∧ i = .int .i64 k ∧ Below w.heap.size w wr) (fun i _ => n' - (intOf i).toNat)
  case atStart => exact ⟨0, Nat.zero_le _, rfl, Below.refl _ _⟩
  case round =>
    obtain ⟨k, hk, rfl, hb⟩ := hrel
    by_cases hlt : k < n'
    · obtain ⟨ad, u, rfl, hlk, q0, q1, q2⟩ := uses_at (hr.below (by omega) hb) (hv.below hb) hlt
      obtain ⟨ad', u', rfl, hlk', q0', q1', q2'⟩ := uses_at (hr'.below (by omega) hb) (hv'.below hb) hlt
      rw [hlk] at hlk'
      obtain rfl : u = u' := by injection hlk'
      have g1 : (k : Int) < (n' : Int) := by omega
      clear hlk hlk'
      obtain ⟨nm, lo, hi⟩ := u
      dsimp only at q0 q1 q2 q0' q1' q2'
      go_wp2_with fail
      go_quiet (fail)
      go_wp2_with fail
      exact ⟨⟨k + 1, by omega, by go_num, ⟨hb.os, hb.tape, hb.output, hb.size, hb.block⟩⟩, by simp [intOf]; omega⟩
    · go_wp2_with fail
      go_ret
      exact ⟨rfl, hb⟩

end Go.Proofs.Ytdajeoifmfbgkaa
