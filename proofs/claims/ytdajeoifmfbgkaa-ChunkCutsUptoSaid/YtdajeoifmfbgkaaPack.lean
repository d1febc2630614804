/-
  The walk of chunk.Pack.
-/
import Derived.Test.YtdajeoifmfbgkaaClone
import Derived.Test.YtdajeoifmfbgkaaCutPlain
import Derived.Deep.DeepCutAuto
import Derived.Deep.CutBlock
namespace Go.Proofs.Ytdajeoifmfbgkaa
open Go.RowKit

def PackRel (w : World) (l : List (List UInt8)) (o i : Value) (wr : World) : Prop :=
  ∃ (k : Nat), k ≤ l.length ∧ i = .int .i64 k ∧ (∀ j (hj : j < l.length), j < k → (l[j]).length ≤ 65535) ∧
    wr.ownsRow w.heap.size 5 1 o (packTo (l.take k)).length (bvs (packTo (l.take k))) ∧ Below w.heap.size w wr

set_option maxRecDepth 100000 in
set_option maxHeartbeats 400000 in
theorem pack_walk (A : Option Addr) (n c : Nat) (vs : List Value) (l : List (List UInt8)) (w : World) (hr : Rd w w.heap.size 1 A n vs) (hl : RdAll w w.heap.size vs l) (hn : n ≤ 1048576) (hb : (packTo l).length ≤ 4000000) :
    Calls Try.prog 16 #[.slice A n c] w fun e w' => ∃ A' m c', e = .returned (.tuple #[.slice A' m c', .int .i64 (packR l).2]) ∧ Rd w' w'.heap.size 1 A' m (bvs (packR l).1) ∧ Below w.heap.size w w' := by
  obtain ⟨i0, hi, hz0, hz1, hz2⟩ := info_parts info_u8
  have hlen : l.length = n := by rw [← hl.1]; exact hr.len
  have HL := Lib.hid hlen; clear hlen
  go_enter Try.func16, Try.ntmps16
  go_wp2
  go_loopw [4, 9] (fun o i wr => PackRel w l o i wr) (fun _ i _ => n - (intOf i).toNat)
  case atStart => exact ⟨0, Nat.zero_le _, rfl, fun _ _ h => absurd h (by omega), World.ownsRow_nil _ _ _ _, Below.refl _ _⟩
  case round =>
    obtain ⟨k, hk, rfl, hsm, hown, hbl⟩ := hrel
    have hr1 := hr.below hbl
    have hl1 := hl.below hbl
    have HS := Lib.hid hsm; clear hsm
    by_cases hlt : k < n
    · have hkl : k < l.length := by have := HL.out; omega
      obtain ⟨ad, rfl, hadb, hcell⟩ := hr1.get hlt
      obtain ⟨A2, c2, e2, hc2, hr2⟩ := hl1.2 k hkl
      have hcell2 : wr.cell? (ad.add k) = some (.slice A2 (l[k]).length c2) := by
        rw [hcell]
        rw [List.getElem?_eq_getElem (by rw [hl1.1]; exact hkl)] at e2
        exact e2
      clear hcell e2
      by_cases h65 : 65535 < (l[k]).length
      · have HB := Lib.hid (packR_bad hkl h65)
        go_wp2_with fail
        go_ret2
        exact ⟨none, 0, 0, by rw [HB.out]; rfl, by rw [HB.out]; exact Rd.nil, hbl⟩
      · have HN := Lib.hid (packTo_snoc l k hkl)
        have hle := packTo_take_le l (k + 1)
        have hle' : (packTo (l.take k)).length + (2 + (l[k]).length) ≤ 4000000 := by
          rw [HN.out, List.length_append] at hle
          simp only [pack1, List.length_cons] at hle
          omega
        have HS2 : Hid (∀ j (hj : j < l.length), j < k + 1 → (l[j]).length ≤ 65535) := by
          intro j hj hjk
          rcases Nat.lt_succ_iff_lt_or_eq.1 hjk with h | h
          · exact HS.out j hj h
          · subst h; omega
        clear hle
        generalize hx : l[k] = x at *
        clear hx
        have hal := hown.alloc (.cells #[.int .u8 ((x.length : Int) / 256), .int .u8 ((x.length : Int) % 256)] 5)
        have hbal := hbl.alloc hbl.size (.cells #[.int .u8 ((x.length : Int) / 256), .int .u8 ((x.length : Int) % 256)] 5)
        have hsrc := Rd.fresh wr 5 #[.int .u8 ((x.length : Int) / 256), .int .u8 ((x.length : Int) % 256)]
        have hone : ∀ u ∈ [Value.int .u8 ((x.length : Int) / 256), .int .u8 ((x.length : Int) % 256)], u.oneCell' = true := by
          intro u hu; simp only [List.mem_cons, List.not_mem_nil, or_false] at hu; rcases hu with rfl | rfl <;> rfl
        have hr3 := hr2.below ((Below.refl w.heap.size wr).alloc hbl.size (.cells #[.int .u8 ((x.length : Int) / 256), .int .u8 ((x.length : Int) % 256)] 5))
        have hx65 : x.length ≤ 65535 := by omega
        go_wp2_with (first
          | (at_builtin; refine wpList_append_rd rfl (.tmp 16) (.tmp 24) _ rfl w.heap.size 5 i0 _ 1 1 Try.underlying22 hi hz0 hz1 hz2 rfl (by omega) u4 (packTo (l.take k)).length _ rfl hal (wr.heap.size + 1) (some ⟨wr.heap.size, 0, none⟩) 2 2 [.int .u8 ((x.length : Int) / 256), .int .u8 ((x.length : Int) % 256)] rfl hsrc hone (by simp only [maxLen]; omega) (by omega) hbal.size ?_; intro v3 w3 hown3 hg3; have hbal3 := below_own hbal hal hg3 (Nat.le_refl _) hbal.size; have hr4 := hr3.below (below_own (Below.refl _ _) hal hg3 (Nat.le_refl _) hbal.size); clear hown hal hg3 hsrc hone hr2 hr3)
          | (at_builtin; refine wpList_append_rd rfl (.tmp 26) (.tmp 27) _ rfl w.heap.size 5 i0 _ 1 1 Try.underlying22 hi hz0 hz1 hz2 rfl (by omega) v3 _ _ rfl hown3 w.heap.size A2 x.length c2 (bvs x) rfl hr4 (bvs_one x) (by simp only [maxLen]; omega) (by omega) hbal3.size ?_; intro v4 w4 hown4 hg4))
        refine ⟨⟨k + 1, by omega, by go_num, HS2.out, ?_, below_own hbal3 hown3 hg4 (Nat.le_refl _) hbal3.size⟩, by simp [intOf]; omega⟩
        rw [HN.out]
        rw [bv_div _ hx65, bv_mod] at hown4
        exact own_cast hown4 (by simp [pack1]; omega) (by simp [bvs, pack1])
    · have hkn : k = l.length := by have := HL.out; omega
      have HP : Hid (packR l = (packTo l, 0)) := packR_ok fun j hj => HS.out j hj (by omega)
      have hown' : wr.ownsRow w.heap.size 5 1 u4 (packTo l).length (bvs (packTo l)) := by
        rw [hkn, List.take_length] at hown; exact hown
      clear hown hkn HS
      obtain ⟨A', c', rfl, -, -⟩ := own_shape hown'
      go_wp2_with fail
      go_ret2
      exact ⟨A', _, c', by rw [HP.out]; rfl, by rw [HP.out]; exact Rd.of_own hown', hbl⟩

end Go.Proofs.Ytdajeoifmfbgkaa
