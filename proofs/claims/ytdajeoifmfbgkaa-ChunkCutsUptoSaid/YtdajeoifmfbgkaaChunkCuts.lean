/-
  The walk of roadlaw5.ChunkCuts: it returns true and leaves all memory that was there as it was.
-/
import Derived.Test.YtdajeoifmfbgkaaCut
import Derived.Test.YtdajeoifmfbgkaaCuts
import Derived.Test.YtdajeoifmfbgkaaPack
import Derived.Test.YtdajeoifmfbgkaaPacked
import Derived.Test.YtdajeoifmfbgkaaScan
import Derived.Test.YtdajeoifmfbgkaaScanned
import Derived.Test.YtdajeoifmfbgkaaSamePieces
import Derived.Lib.SlBytesConst
namespace Go.Proofs.Ytdajeoifmfbgkaa
open Go.RowKit

set_option maxRecDepth 100000 in
set_option maxHeartbeats 400000 in
theorem chunkCuts_walk (A : Option Addr) (n c : Nat) (bs : List UInt8) (A2 : Option Addr) (n2 c2 : Nat) (vs : List Value) (l : List (List UInt8)) (w : World)
    (hr : Rd w w.heap.size 1 A n (bvs bs)) (hn : n ≤ 1048576) (hc : n ≤ c) (hr2 : Rd w w.heap.size 1 A2 n2 vs) (hl : RdAll w w.heap.size vs l) (hn2 : n2 ≤ 1048576) (hb : (packTo l).length ≤ 4000000) :
    Calls Try.prog 3 #[.slice A n c, .slice A2 n2 c2] w fun e w' => e = .returned (.bool true) ∧ Below w.heap.size w w' := by
  have kc := fun (w : World) (C : Array Value) (n c : Nat) => Lib.run_convert_bytes_const (P := Try.prog) w 22 5 C n c Try.underlying22 Try.underlying5
  go_enter Try.func3, Try.ntmps3
  go_wp2_with fail
  have hb0 : Below w.heap.size w (w.alloc (.cells #[.int .u8 97, .int .u8 10, .int .u8 98] 5 (3, 4))) := (Below.refl _ _).alloc (Nat.le_refl _) _
  have hr0 : Rd (w.alloc (.cells #[.int .u8 97, .int .u8 10, .int .u8 98] 5 (3, 4))) (w.alloc (.cells #[.int .u8 97, .int .u8 10, .int .u8 98] 5 (3, 4))).heap.size 1 (some ⟨w.heap.size, 0, none⟩) 3 (bvs [97, 10, 98]) := by
    have := Rd.freshM w 5 #[.int .u8 97, .int .u8 10, .int .u8 98] (3, 4)
    simpa [bvs, bv] using this
  have hz0 : w.heap.size ≤ (w.alloc (.cells #[.int .u8 97, .int .u8 10, .int .u8 98] 5 (3, 4))).heap.size := hb0.size
  (with_reducible refine (cut_walk _ 3 3 [97, 10, 98] _ hr0 (by omega) (by omega)).mono ?_)
  rintro e w1 ⟨v1, ps1, rfl, hv1, ha1, hb1⟩
  have hlen1 : ps1.length = 2 := by
    have := ha1.len
    rw [this]; rfl
  obtain ⟨A1, c1, rfl, -, -⟩ := own_shape hv1
  obtain ⟨p0, p1, rfl⟩ : ∃ p0 p1, ps1 = [p0, p1] := by
    match ps1, hlen1 with
    | [a, b], _ => exact ⟨a, b, rfl⟩
  have hB1 := hb0.trans (hb1.mono hz0)
  clear hv1 ha1 hlen1 hb0 hb1 hr0 hz0
  have hr1 := hr.below hB1
  have hr21 := hr2.below hB1
  have hl1 := hl.below hB1
  have hs1 := hB1.size
  go_wp2_with fail
  (with_reducible refine (pack_walk A2 n2 c2 vs l _ (hr21.up hs1) (hl1.up hs1) hn2 hb).mono ?_)
  rintro e w2 ⟨A3, m3, c3, rfl, hr3, hb2⟩
  have hB2 := hB1.trans (hb2.mono hs1)
  have hr22 := hr2.below hB2
  have hl2 := hl.below hB2
  have hs2 := hB2.size
  go_wp2_with fail
  (with_reducible refine (packed_walk A2 n2 c2 vs l _ (hr22.up hs2) (hl2.up hs2) hn2 hb).mono ?_)
  rintro e w3 ⟨A4, m4, c4, rfl, hr4, hb3⟩
  have hB3 := hB2.trans (hb3.mono hs2)
  have hr33 := hr3.below hb3
  have hr13 := hr.below hB3
  have hs3 := hB3.size
  generalize (packR l).2 = pe at *
  clear hr1 hr21 hl1 hb2 hr22 hl2
  go_wp2_with fail
  (with_reducible refine (scan_walk A n c bs _ (hr13.up hs3) hn hc).mono ?_)
  rintro e w4 ⟨v5, ps5, rfl, hv5, ha5, hb4⟩
  obtain ⟨A5, c5, rfl, -, -⟩ := own_shape hv5
  have hB4 := hB3.trans (hb4.mono hs3)
  have hs4 := hB4.size
  have hr14 := hr.below hB4
  go_wp2_with fail
  (with_reducible refine (scanned_walk A n c bs _ (hr14.up hs4) hn hc).mono ?_)
  rintro e w5 ⟨v6, rfl, hv6, hb5⟩
  obtain ⟨A6, c6, rfl, -, -⟩ := own_shape hv6
  have hB5 := hB4.trans (hb5.mono hs4)
  have hs5 := hB5.size
  have hr15 := hr.below hB5
  generalize (scanF bs.length bs).2 = se at *
  go_wp2_with fail
  (with_reducible refine (cut_walk A n c bs _ (hr15.up hs5) hn hc).mono ?_)
  rintro e w6 ⟨v7, ps7, rfl, hv7, ha7, hb6⟩
  obtain ⟨A7, c7, rfl, -, -⟩ := own_shape hv7
  have hB6 := hB5.trans (hb6.mono hs5)
  have hs6 := hB6.size
  have hr16 := hr.below hB6
  go_wp2_with fail
  (with_reducible refine (cuts_walk A n c bs _ (hr16.up hs6) hn).mono ?_)
  rintro e w7 ⟨v8, rfl, hv8, hb7⟩
  obtain ⟨A8, c8, rfl, -, -⟩ := own_shape hv8
  have hB7 := hB6.trans (hb7.mono hs6)
  have hlen : bs.length = n := by simpa [bvs] using hr.1
  have h47 : Below w4.heap.size w4 w7 := (hb5.trans (hb6.mono hb5.size)).trans (hb7.mono (Nat.le_trans hb5.size hb6.size))
  have h57 : Below w5.heap.size w5 w7 := hb6.trans (hb7.mono hb6.size)
  have h37 : Below w3.heap.size w3 w7 := hb4.trans (h47.mono hb4.size)
  have k5 := (Rd.of_own hv5).below h47
  have k5a := ha5.reads.below h47
  have k6 := (Rd.of_own hv6).below h57
  have k7 := (Rd.of_own hv7).below hb7
  have k7a := ha7.reads.below hb7
  have k8 := Rd.of_own hv8
  have k3 := hr33.below (h37.mono hb3.size)
  have k4 := hr4.below h37
  have l7 : ps7.length ≤ 1048576 := by
    have := ha7.len
    rw [List.length_map] at this
    have := cutsF_len bs.length bs
    omega
  have l5 : ps5.length ≤ 1048576 := by
    have := ha5.len
    rw [List.length_map] at this
    have := scanF_len bs.length bs
    omega
  clear hv5 ha5 hv6 hv7 ha7 hv8 hr33 hr4 hr3 hb3 hb4 hb5 hb6 hb7 h47 h57 h37 hr13 hr14 hr15 hr16 hlen
  go_wp2_with fail
  (with_reducible refine (samePieces_walk A7 _ c7 ps7 A8 _ c8 _ _ _ _ k7 k7a k8 l7).mono ?_)
  rintro e w' ⟨rfl, rfl⟩
  go_wp2_with fail
  (with_reducible refine (sameBytes_walk A3 m3 c3 _ A4 m4 c4 _ _ _ k3 k4).mono ?_)
  rintro e w' ⟨rfl, rfl⟩
  go_wp2_with fail
  (with_reducible refine (samePieces_walk A5 _ c5 ps5 A6 _ c6 _ _ _ _ k5 k5a k6 l5).mono ?_)
  rintro e w' ⟨rfl, rfl⟩
  go_wp2_with fail
  go_ret
  exact ⟨rfl, hB7⟩

end Go.Proofs.Ytdajeoifmfbgkaa
