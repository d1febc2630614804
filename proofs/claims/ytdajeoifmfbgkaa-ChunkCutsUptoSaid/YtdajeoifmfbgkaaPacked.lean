/-
  The walk of roadref5.Packed.
-/
import Derived.Test.YtdajeoifmfbgkaaClone
import Derived.Test.YtdajeoifmfbgkaaCutPlain
import Derived.Deep.DeepCutAuto
import Derived.Deep.CutBlock
namespace Go.Proofs.Ytdajeoifmfbgkaa
open Go.RowKit

def PackedRel (w : World) (l : List (List UInt8)) (o i : Value) (wr : World) : Prop :=
  ∃ (k : Nat), k ≤ l.length ∧ i = .int .i64 k ∧ (∀ j (hj : j < l.length), j < k → (l[j]).length ≤ 65535) ∧
    o = .string ⟨(packTo (l.take k)).toArray⟩ ∧ Below w.heap.size w wr

set_option maxRecDepth 100000 in
set_option maxHeartbeats 400000 in
theorem packed_walk (A : Option Addr) (n c : Nat) (vs : List Value) (l : List (List UInt8)) (w : World) (hr : Rd w w.heap.size 1 A n vs) (hl : RdAll w w.heap.size vs l) (hn : n ≤ 1048576) (hb : (packTo l).length ≤ 4000000) :
    Calls Try.prog 17 #[.slice A n c] w fun e w' => ∃ A' m c', e = .returned (.tuple #[.slice A' m c', .int .i64 (packR l).2]) ∧ Rd w' w'.heap.size 1 A' m (bvs (packR l).1) ∧ Below w.heap.size w w' := by
  obtain ⟨i0, hi, hz0, hz1, hz2⟩ := info_parts info_u8
  have hlen : l.length = n := by rw [← hl.1]; exact hr.len
  have HL := Lib.hid hlen; clear hlen
  go_enter Try.func17, Try.ntmps17
  go_wp2
  go_loopw [4, 9] (fun o i wr => PackedRel w l o i wr) (fun _ i _ => n - (intOf i).toNat)
  case atStart => exact ⟨0, Nat.zero_le _, rfl, fun _ _ h => absurd h (by omega), rfl, Below.refl _ _⟩
  case round =>
    obtain ⟨k, hk, rfl, hsm, rfl, hbl⟩ := hrel
    have hr1 := hr.below hbl
    have hl1 := hl.below hbl
    have HS := Lib.hid hsm; clear hsm
    by_cases hlt : k < n
    · have hkl : k < l.length := by have := HL.out; omega
      obtain ⟨ad, rfl, hadb, hcell⟩ := hr1.get hlt
      obtain ⟨A2, c2, e2, hc2, hr2⟩ := hl1.2 k hkl
      have hcell2 : wr.cell? (ad.add k) = some (.slice A2 (l[k]).length c2) := by
        rw [hcell]
        rw [List.getElem?_eq_getElem (by rw [hl1.1]; exact hkl)] at e2
        exact e2
      clear hcell e2
      by_cases h65 : 65536 ≤ (l[k]).length
      · have HB := Lib.hid (packR_bad hkl (by omega))
        have hd : decide ((65536 : Int) ≤ ((l[k]).length : Int)) = true := by simp; omega
        clear h65
        generalize (l[k]).length = xl at *
        go_wp2_with fail
        go_ret2
        exact ⟨none, 0, 0, by rw [HB.out]; rfl, by rw [HB.out]; exact Rd.nil, hbl⟩
      · have HN := Lib.hid (packTo_snoc l k hkl)
        have hle := packTo_take_le l (k + 1)
        have hle' : (packTo (l.take k)).length + (2 + (l[k]).length) ≤ 4000000 := by
          rw [HN.out, List.length_append] at hle
          simp only [pack1, List.length_cons] at hle
          omega
        have HS2 : Hid (∀ j (hj : j < l.length), j < k + 1 → (l[j]).length ≤ 65535) := by
          intro j hj hjk
          rcases Nat.lt_succ_iff_lt_or_eq.1 hjk with h | h
          · exact HS.out j hj h
          · subst h; omega
        clear hle
        generalize hx : l[k] = x at *
        clear hx
        have hx65 : x.length ≤ 65535 := by omega
        have hd : decide ((65536 : Int) ≤ (x.length : Int)) = false := by simp; omega
        have hsrc : Rd (wr.alloc (.cells #[.int .u8 ((x.length : Int) / 256), .int .u8 ((x.length : Int) % 256)] 5)) (wr.heap.size + 1) 1 (some ⟨wr.heap.size, 0, none⟩) 2 (bvs [UInt8.ofNat (x.length / 256), UInt8.ofNat x.length]) := by
          have := Rd.fresh wr 5 #[.int .u8 ((x.length : Int) / 256), .int .u8 ((x.length : Int) % 256)]
          rw [bv_div _ hx65, bv_mod] at this ⊢
          exact this
        have hbal := hbl.alloc hbl.size (.cells #[.int .u8 ((x.length : Int) / 256), .int .u8 ((x.length : Int) % 256)] 5)
        have hr3 := hr2.below ((Below.refl w.heap.size wr).alloc hbl.size (.cells #[.int .u8 ((x.length : Int) / 256), .int .u8 ((x.length : Int) % 256)] 5))
        have hcv := run_string_rd (P := Try.prog) 22 9 5 Try.underlying22 Try.underlying5 Try.underlying9 2 hsrc
        have hcv2 := run_string_rd (P := Try.prog) 22 9 5 Try.underlying22 Try.underlying5 Try.underlying9 c2 hr3
        clear h65
        go_wp2_with fail
        refine ⟨⟨k + 1, by omega, by go_num, HS2.out, ?_, hbal⟩, by simp [intOf]; omega⟩
        have e1 := cat_str [UInt8.ofNat (x.length / 256), UInt8.ofNat x.length] x
        have e2 := cat_str (packTo (l.take k)) ([UInt8.ofNat (x.length / 256), UInt8.ofNat x.length] ++ x)
        rw [HN.out, show pack1 x = [UInt8.ofNat (x.length / 256), UInt8.ofNat x.length] ++ x from rfl, ← e2, ← e1]
    · have hkn : k = l.length := by have := HL.out; omega
      have HP : Hid (packR l = (packTo l, 0)) := packR_ok fun j hj => HS.out j hj (by omega)
      rw [hkn, List.take_length]
      rw [hkn] at hlt hk
      clear HS hkn
      obtain ⟨c3, w3, hcv, -, hr3, hb3⟩ := run_bytes_rd (P := Try.prog) wr 9 22 5 (packTo l) Try.underlying9 Try.underlying22 Try.underlying5
      go_wp2_with fail
      go_ret2
      exact ⟨_, _, c3, by rw [HP.out]; rfl, by rw [HP.out]; exact hr3, hbl.trans (hb3.mono hbl.size)⟩

end Go.Proofs.Ytdajeoifmfbgkaa
