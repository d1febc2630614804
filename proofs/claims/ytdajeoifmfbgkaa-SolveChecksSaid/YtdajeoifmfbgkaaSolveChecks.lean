/-
  The walk of roadlaw5.SolveChecks: it returns true and leaves all memory that was there as it was.
-/
import Derived.Test.YtdajeoifmfbgkaaOf
import Derived.Test.YtdajeoifmfbgkaaEqUses
import Derived.Test.YtdajeoifmfbgkaaRegFault
import Derived.Test.YtdajeoifmfbgkaaAfter
import Derived.Deep.DeepCutAuto
namespace Go.Proofs.Ytdajeoifmfbgkaa
open Go.RowKit

theorem name_a (w : World) : Calls Try.prog 51 #[.string ⟨#[97]⟩] w fun e w' => e = .returned (.bool true) ∧ w = w' := by
  have := name_walk [97] w (by simp)
  rwa [nameOk_yes (by simp) (by simp) (by
    intro j h _
    obtain rfl : j = 0 := by simpa using h
    rfl)] at this

set_option maxRecDepth 100000 in
set_option maxHeartbeats 1000000 in
theorem solveChecks_walk (l : List ModD) (hl : ∀ m ∈ l, m.name.length ≤ 9223372036854775807 ∧ ∀ u ∈ m.uses, u.name.length ≤ 9223372036854775807) (us : List UseD) (hus : ∀ u ∈ us, u.name.length ≤ 9223372036854775807)
    (nm : List UInt8) (hnm : nm.length ≤ 9223372036854775807) (ver : Int) (ps : List UseD) (y3 y4 y5 y6 y7 : Value) (w : World) (T : Nat → Prop)
    (A1 A2 A3 : Option Addr) (n1 c1 n2 c2 n3 c3 : Nat) (x1 x2 x3 : List Value)
    (hr1 : Rs w T 3 A1 n1 x1) (hv1 : RV w T (l.flatMap ModD.dats) x1) (hr2 : Rs w T 3 A2 n2 x2) (hv2 : RV w T (us.flatMap UseD.dats) x2) (hr3 : Rs w T 3 A3 n3 x3) (hv3 : RV w T (ps.flatMap UseD.dats) x3) (hn3 : n3 ≤ 4398046511104) :
    Calls Try.prog 8 #[.slice A1 n1 c1, .slice A2 n2 c2, .agg #[.string ⟨nm.toArray⟩, .int .i64 ver, .slice A3 n3 c3, y3, y4, y5, y6, y7]] w fun e w' => e = .returned (.bool true) ∧ Below w.heap.size w w' := by
  have HA := Lib.hid hl; have HU := Lib.hid hus
  clear hl hus
  go_enter Try.func8, Try.ntmps8
  go_wp2_with fail
  have hb0 : Below w.heap.size w (w.alloc (.cells #[.string ⟨nm.toArray⟩, .int .i64 ver, .slice A3 n3 c3, y3, y4, y5, y6, y7] 80)) := (Below.refl _ _).alloc (Nat.le_refl _) _
  have hr30 := hr3.below (by omega) hb0
  have hv30 := hv3.below hb0
  (with_reducible refine (of_walk nm ver A3 n3 c3 x3 y3 y4 y5 y6 y7 _ (hr30.rd (by omega)) hv30.oneCell hn3).mono ?_)
  rintro e w1 ⟨A4, c4, rfl, hc4, hr4, hb1⟩
  go_upto_region 2 with fail
  have p0 := box_kept hb1 0
  have p1 := box_kept hb1 1
  have p2 := box_kept hb1 2
  have hsz : w.heap.size < w1.heap.size := by have := hb1.size; simp at this; omega
  have hbW : Below w1.heap.size w1 (w1.alloc (.cells #[.string ⟨nm.toArray⟩, .int .i64 ver, .slice A4 n3 c4] 100)) := (Below.refl _ _).alloc (Nat.le_refl _) _
  have hB := (hb0.trans (hb1.mono hb0.size)).trans (hbW.mono (Nat.le_of_lt hsz))
  have m0 : (w1.alloc (.cells #[.string ⟨nm.toArray⟩, .int .i64 ver, .slice A4 n3 c4] 100)).cell? ⟨w1.heap.size, 0, none⟩ = some (.string ⟨nm.toArray⟩) := by rw [World.cell?_alloc_new]; rfl
  have m1 : (w1.alloc (.cells #[.string ⟨nm.toArray⟩, .int .i64 ver, .slice A4 n3 c4] 100)).cell? ⟨w1.heap.size, 1, none⟩ = some (.int .i64 ver) := by rw [World.cell?_alloc_new]; rfl
  have m2 : (w1.alloc (.cells #[.string ⟨nm.toArray⟩, .int .i64 ver, .slice A4 n3 c4] 100)).cell? ⟨w1.heap.size, 2, none⟩ = some (.slice A4 n3 c4) := by rw [World.cell?_alloc_new]; rfl
  replace p0 : (w1.alloc (.cells #[.string ⟨nm.toArray⟩, .int .i64 ver, .slice A4 n3 c4] 100)).cell? ⟨w.heap.size, 0, none⟩ = some (.string ⟨nm.toArray⟩) := (hbW.cell hsz).trans p0
  replace p1 : (w1.alloc (.cells #[.string ⟨nm.toArray⟩, .int .i64 ver, .slice A4 n3 c4] 100)).cell? ⟨w.heap.size, 1, none⟩ = some (.int .i64 ver) := (hbW.cell hsz).trans p1
  replace p2 : (w1.alloc (.cells #[.string ⟨nm.toArray⟩, .int .i64 ver, .slice A4 n3 c4] 100)).cell? ⟨w.heap.size, 2, none⟩ = some (.slice A3 n3 c3) := (hbW.cell hsz).trans p2
  have r1 := hr1.below (by omega) hB
  have r2 := hr2.below (by omega) hB
  have r3 := hr3.below (by omega) hB
  have r4 := hr4.below (by omega) hbW
  have v1 := hv1.below hB
  have v2 := hv2.below hB
  have v3 := hv3.below hB
  generalize (w1.alloc (.cells #[.string ⟨nm.toArray⟩, .int .i64 ver, .slice A4 n3 c4] 100)) = W at *
  clear hr1 hv1 hr2 hv2 hr3 hv3 hr30 hv30 hr4 hbW hb0 hb1
  have q0 := After.cell p0
  have q1 := After.cell p1
  have q2 := After.cell p2
  have o0 := After.cell m0
  have o1 := After.cell m1
  have o2 := After.cell m2
  have k1 := fun x : After W => calls_after (check_walk l HA.out x.w _ _ A1 n1 c1 x1 (r1.below (by omega) x.b) (v1.below x.b))
  have k2 := fun x : After W => calls_after (regFault_walk l HA.out x.w _ _ A1 n1 c1 x1 (r1.below (by omega) x.b) (v1.below x.b))
  have k3 := fun x : After W => calls_after (wants_walk us HU.out x.w _ _ A2 n2 c2 x2 (r2.below (by omega) x.b) (v2.below x.b))
  have k4 := fun x : After W => calls_after (usesFault_walk us HU.out x.w _ _ A2 n2 c2 x2 (r2.below (by omega) x.b) (v2.below x.b))
  have k5 := fun x : After W => calls_after_same (name_walk nm x.w hnm)
  have k6 := fun x : After W => calls_after (modName_walk nm x.w hnm)
  have k7 := fun x : After W => calls_after (eqUses_walk ps x.w _ _ _ _ A4 A3 n3 c4 n3 c3 x3 x3 (r4.below (by omega) x.b) (v3.below x.b) (r3.below (by omega) x.b) (v3.below x.b) hn3)
  have k8 := fun x : After W => calls_after_same (name_a x.w)
  have K1 := Lib.hid k1; have K2 := Lib.hid k2; have K3 := Lib.hid k3; have K4 := Lib.hid k4; have K5 := Lib.hid k5; have K6 := Lib.hid k6; have K7 := Lib.hid k7; have K8 := Lib.hid k8
  clear k1 k2 k3 k4 k5 k6 k7 k8
  refine wp_region_after (by kernel_rfl) (by kernel_rfl) ?_
  generalize regE l = rl at *
  generalize wantsE us = wl at *
  generalize nameOk nm = nk at *
  repeat (go_big_quiet_step ((first | (with_reducible exact K1.out _) | (with_reducible exact K2.out _) | (with_reducible exact K3.out _) | (with_reducible exact K4.out _) | (with_reducible exact K5.out _) | (with_reducible exact K6.out _) | (with_reducible exact K7.out _) | (with_reducible exact K8.out _))))
  refine wpQuiet_nil ?_
  intro w' hw'
  obtain ⟨x, rfl⟩ := hw'
  have hfin := hB.trans (x.b.mono hB.size)
  go_wp2_with fail
  go_ret
  exact ⟨rfl, hfin⟩

end Go.Proofs.Ytdajeoifmfbgkaa
