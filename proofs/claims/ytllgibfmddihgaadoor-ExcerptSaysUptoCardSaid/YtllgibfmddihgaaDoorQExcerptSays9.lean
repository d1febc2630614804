/-
  Texts of this proof, part 9: Teb Tmi Tmj Tmk Tml.
-/
import Derived.Test.YtllgibfmddihgaaDoorQExcerptSays8
import Derived.Laws.Strings2
import Derived.Laws.StructEq
import Derived.Lib.AppendStr
import Derived.Lib.MinMax
import Derived.MapKept
namespace Go.Proofs.YtllgibfmddihgaaDoor
open Go.RowKit
/-- where to cut; what is left of the number -/
def dropAt (k : Int) (n : Nat) : Int := bif decide (0 ≤ k) && decide (k < n) then k else -1
set_option maxRecDepth 100000 in
set_option maxHeartbeats 4000000 in
theorem cutUs_af (l : List Us) (i : Int) (hl : l.length ≤ 1048576) : AF Tryd.prog 18 [Us.row l, .lit (.int .i64 i)] (· = Us.row (cutl l i)) := by
  refine af_enter tok Tryd.func18 Tryd.ntmps18 Tryd.results18 rfl (by kernel_rfl) rfl rfl fun F hX => ?_
  repeat (first | refine gG ?_ | refine zN1 (fun hlen => ?_) | refine zN2 (fun hlen => ?_) | refine zAl (fun _ => ?_) | refine zAp (fun _ => ?_))
  refine x_own 5 48 3 rfl rfl rfl rfl rfl ?_
  refine x_loop [5, 6, 7, 10, 11, 12, 13, 14, 15, 16, 17, 18, 19, 20, 21, 22] (fun y : Nat × Value => [(10, .c (.lit (.int .i64 (y.1 : Nat)))), (5, .own 0 y.2)]) (fun y => [.row y.2 48 3 (cutl (l.take y.1) i).length ((cutl (l.take y.1) i).flatMap Us.ts)])
    (fun y => y.1 ≤ l.length) (fun y => l.length - y.1) (0, .slice none 0 0) (Nat.zero_le _) ⟨rfl, rfl, trivial⟩ (by simp only [List.take_zero, cutl_nil]; rfl) ?_
  rintro ⟨k, v⟩ hk
  dsimp only at hk ⊢
  repeat (first | refine gG ?_ | refine zN1 (fun hlen => ?_) | refine zN2 (fun hlen => ?_) | refine zAl (fun _ => ?_) | refine zAp (fun _ => ?_))
  refine x_cond rfl (fun h => ?_) (fun h => ?_)
  · have hk' : k < l.length := by simpa using h
    obtain ⟨a, ha⟩ := nth hk'
    have hsn := cutl_snoc ha i
    have hle : (cutl (l.take k) i).length ≤ 1048576 := Nat.le_trans (cutl_le _ i) (by rw [List.length_take]; omega)
    have hat := Us.at ha
    clear h ha
    cases d : decide (((k : Nat) : Int) = i)
    · rw [d] at hsn
      have hl1 : (cutl (l.take (k + 1)) i).length = (cutl (l.take k) i).length + 1 := by rw [hsn]; simp
      have hc1 : (cutl (l.take (k + 1)) i).flatMap Us.ts = (cutl (l.take k) i).flatMap Us.ts ++ a.ts := by rw [hsn]; simp
      clear hsn
      obtain ⟨un, lo, hi⟩ := a
      repeat (first | refine gG ?_ | refine zN1 (fun hlen => ?_) | refine zN2 (fun hlen => ?_) | refine zAl (fun _ => ?_) | refine zAp (fun _ => ?_))
      refine zIx (k) (hk') ?_
      repeat (first | refine gG ?_ | refine zN1 (fun hlen => ?_) | refine zN2 (fun hlen => ?_) | refine zAl (fun _ => ?_) | refine zAp (fun _ => ?_))
      refine zEl (hat) (Us.ts_len _) ?_
      repeat (first | refine gG ?_ | refine zN1 (fun hlen => ?_) | refine zN2 (fun hlen => ?_) | refine zAl (fun _ => ?_) | refine zAp (fun _ => ?_))
      exact ⟨(k + 1, _), hk', by simp only; omega, x_wkd 1 ⟨rfl, rfl, trivial⟩ (by simp only [hl1, hc1]; rfl) (by repeat (first | exact ag_refl | refine ag_upd rfl ?_ | refine ag_at rfl rfl ?_))⟩
    · rw [d] at hsn
      have hl1 : (cutl (l.take (k + 1)) i).length = (cutl (l.take k) i).length := by rw [hsn]; rfl
      have hc1 : (cutl (l.take (k + 1)) i).flatMap Us.ts = (cutl (l.take k) i).flatMap Us.ts := by rw [hsn]; rfl
      clear hsn
      obtain ⟨un, lo, hi⟩ := a
      repeat (first | refine gG ?_ | refine zN1 (fun hlen => ?_) | refine zN2 (fun hlen => ?_) | refine zAl (fun _ => ?_) | refine zAp (fun _ => ?_))
      refine zIx (k) (hk') ?_
      repeat (first | refine gG ?_ | refine zN1 (fun hlen => ?_) | refine zN2 (fun hlen => ?_) | refine zAl (fun _ => ?_) | refine zAp (fun _ => ?_))
      refine zEl (hat) (Us.ts_len _) ?_
      repeat (first | refine gG ?_ | refine zN1 (fun hlen => ?_) | refine zN2 (fun hlen => ?_) | refine zAl (fun _ => ?_) | refine zAp (fun _ => ?_))
      exact ⟨(k + 1, v), hk', by simp only; omega, x_wkd 1 ⟨rfl, rfl, trivial⟩ (by simp only [hl1, hc1]; rfl) (by repeat (first | exact ag_refl | refine ag_upd rfl ?_ | refine ag_at rfl rfl ?_))⟩
  · have hk' : k = l.length := by
      have : ¬ k < l.length := by simpa using h
      omega
    subst hk'
    clear h
    rw [List.take_length]
    repeat (first | refine gG ?_ | refine zN1 (fun hlen => ?_) | refine zN2 (fun hlen => ?_) | refine zAl (fun _ => ?_) | refine zAp (fun _ => ?_))
    first | refine zR ?_ | refine zQ ?_
    rfl
set_option maxRecDepth 100000 in
set_option maxHeartbeats 4000000 in
theorem cutDa_af (l : List Da) (i : Int) (hl : l.length ≤ 1048576) : AF Tryd.prog 20 [Da.row l, .lit (.int .i64 i)] (· = Da.row (cutl l i)) := by
  refine af_enter tok Tryd.func20 Tryd.ntmps20 Tryd.results20 rfl (by kernel_rfl) rfl rfl fun F hX => ?_
  repeat (first | refine gG ?_ | refine zN1 (fun hlen => ?_) | refine zN2 (fun hlen => ?_) | refine zAl (fun _ => ?_) | refine zAp (fun _ => ?_))
  refine x_own 5 55 3 rfl rfl rfl rfl rfl ?_
  refine x_loop [5, 6, 7, 10, 11, 12, 13, 14, 15, 16, 17, 18, 19, 20, 21, 22] (fun y : Nat × Value => [(10, .c (.lit (.int .i64 (y.1 : Nat)))), (5, .own 0 y.2)]) (fun y => [.row y.2 55 3 (cutl (l.take y.1) i).length ((cutl (l.take y.1) i).flatMap Da.ts)])
    (fun y => y.1 ≤ l.length) (fun y => l.length - y.1) (0, .slice none 0 0) (Nat.zero_le _) ⟨rfl, rfl, trivial⟩ (by simp only [List.take_zero, cutl_nil]; rfl) ?_
  rintro ⟨k, v⟩ hk
  dsimp only at hk ⊢
  repeat (first | refine gG ?_ | refine zN1 (fun hlen => ?_) | refine zN2 (fun hlen => ?_) | refine zAl (fun _ => ?_) | refine zAp (fun _ => ?_))
  refine x_cond rfl (fun h => ?_) (fun h => ?_)
  · have hk' : k < l.length := by simpa using h
    obtain ⟨a, ha⟩ := nth hk'
    have hsn := cutl_snoc ha i
    have hle : (cutl (l.take k) i).length ≤ 1048576 := Nat.le_trans (cutl_le _ i) (by rw [List.length_take]; omega)
    have hat := Da.at ha
    clear h ha
    cases d : decide (((k : Nat) : Int) = i)
    · rw [d] at hsn
      have hl1 : (cutl (l.take (k + 1)) i).length = (cutl (l.take k) i).length + 1 := by rw [hsn]; simp
      have hc1 : (cutl (l.take (k + 1)) i).flatMap Da.ts = (cutl (l.take k) i).flatMap Da.ts ++ a.ts := by rw [hsn]; simp
      clear hsn
      obtain ⟨dn, dps, mks⟩ := a
      repeat (first | refine gG ?_ | refine zN1 (fun hlen => ?_) | refine zN2 (fun hlen => ?_) | refine zAl (fun _ => ?_) | refine zAp (fun _ => ?_))
      refine zIx (k) (hk') ?_
      repeat (first | refine gG ?_ | refine zN1 (fun hlen => ?_) | refine zN2 (fun hlen => ?_) | refine zAl (fun _ => ?_) | refine zAp (fun _ => ?_))
      refine zEl (hat) (Da.ts_len _) ?_
      repeat (first | refine gG ?_ | refine zN1 (fun hlen => ?_) | refine zN2 (fun hlen => ?_) | refine zAl (fun _ => ?_) | refine zAp (fun _ => ?_))
      exact ⟨(k + 1, _), hk', by simp only; omega, x_wkd 1 ⟨rfl, rfl, trivial⟩ (by simp only [hl1, hc1]; rfl) (by repeat (first | exact ag_refl | refine ag_upd rfl ?_ | refine ag_at rfl rfl ?_))⟩
    · rw [d] at hsn
      have hl1 : (cutl (l.take (k + 1)) i).length = (cutl (l.take k) i).length := by rw [hsn]; rfl
      have hc1 : (cutl (l.take (k + 1)) i).flatMap Da.ts = (cutl (l.take k) i).flatMap Da.ts := by rw [hsn]; rfl
      clear hsn
      obtain ⟨dn, dps, mks⟩ := a
      repeat (first | refine gG ?_ | refine zN1 (fun hlen => ?_) | refine zN2 (fun hlen => ?_) | refine zAl (fun _ => ?_) | refine zAp (fun _ => ?_))
      refine zIx (k) (hk') ?_
      repeat (first | refine gG ?_ | refine zN1 (fun hlen => ?_) | refine zN2 (fun hlen => ?_) | refine zAl (fun _ => ?_) | refine zAp (fun _ => ?_))
      refine zEl (hat) (Da.ts_len _) ?_
      repeat (first | refine gG ?_ | refine zN1 (fun hlen => ?_) | refine zN2 (fun hlen => ?_) | refine zAl (fun _ => ?_) | refine zAp (fun _ => ?_))
      exact ⟨(k + 1, v), hk', by simp only; omega, x_wkd 1 ⟨rfl, rfl, trivial⟩ (by simp only [hl1, hc1]; rfl) (by repeat (first | exact ag_refl | refine ag_upd rfl ?_ | refine ag_at rfl rfl ?_))⟩
  · have hk' : k = l.length := by
      have : ¬ k < l.length := by simpa using h
      omega
    subst hk'
    clear h
    rw [List.take_length]
    repeat (first | refine gG ?_ | refine zN1 (fun hlen => ?_) | refine zN2 (fun hlen => ?_) | refine zAl (fun _ => ?_) | refine zAp (fun _ => ?_))
    first | refine zR ?_ | refine zQ ?_
    rfl
set_option maxRecDepth 100000 in
set_option maxHeartbeats 4000000 in
theorem cutTr_af (l : List Tr) (i : Int) (hl : l.length ≤ 1048576) : AF Tryd.prog 21 [Tr.row l, .lit (.int .i64 i)] (· = Tr.row (cutl l i)) := by
  refine af_enter tok Tryd.func21 Tryd.ntmps21 Tryd.results21 rfl (by kernel_rfl) rfl rfl fun F hX => ?_
  repeat (first | refine gG ?_ | refine zN1 (fun hlen => ?_) | refine zN2 (fun hlen => ?_) | refine zAl (fun _ => ?_) | refine zAp (fun _ => ?_))
  refine x_own 5 58 2 rfl rfl rfl rfl rfl ?_
  refine x_loop [5, 6, 7, 10, 11, 12, 13, 14, 15, 16, 17, 18, 19, 20, 21, 22] (fun y : Nat × Value => [(10, .c (.lit (.int .i64 (y.1 : Nat)))), (5, .own 0 y.2)]) (fun y => [.row y.2 58 2 (cutl (l.take y.1) i).length ((cutl (l.take y.1) i).flatMap Tr.ts)])
    (fun y => y.1 ≤ l.length) (fun y => l.length - y.1) (0, .slice none 0 0) (Nat.zero_le _) ⟨rfl, rfl, trivial⟩ (by simp only [List.take_zero, cutl_nil]; rfl) ?_
  rintro ⟨k, v⟩ hk
  dsimp only at hk ⊢
  repeat (first | refine gG ?_ | refine zN1 (fun hlen => ?_) | refine zN2 (fun hlen => ?_) | refine zAl (fun _ => ?_) | refine zAp (fun _ => ?_))
  refine x_cond rfl (fun h => ?_) (fun h => ?_)
  · have hk' : k < l.length := by simpa using h
    obtain ⟨a, ha⟩ := nth hk'
    have hsn := cutl_snoc ha i
    have hle : (cutl (l.take k) i).length ≤ 1048576 := Nat.le_trans (cutl_le _ i) (by rw [List.length_take]; omega)
    have hat := Tr.at ha
    clear h ha
    cases d : decide (((k : Nat) : Int) = i)
    · rw [d] at hsn
      have hl1 : (cutl (l.take (k + 1)) i).length = (cutl (l.take k) i).length + 1 := by rw [hsn]; simp
      have hc1 : (cutl (l.take (k + 1)) i).flatMap Tr.ts = (cutl (l.take k) i).flatMap Tr.ts ++ a.ts := by rw [hsn]; simp
      clear hsn
      obtain ⟨tn, tfs⟩ := a
      repeat (first | refine gG ?_ | refine zN1 (fun hlen => ?_) | refine zN2 (fun hlen => ?_) | refine zAl (fun _ => ?_) | refine zAp (fun _ => ?_))
      refine zIx (k) (hk') ?_
      repeat (first | refine gG ?_ | refine zN1 (fun hlen => ?_) | refine zN2 (fun hlen => ?_) | refine zAl (fun _ => ?_) | refine zAp (fun _ => ?_))
      refine zEl (hat) (Tr.ts_len _) ?_
      repeat (first | refine gG ?_ | refine zN1 (fun hlen => ?_) | refine zN2 (fun hlen => ?_) | refine zAl (fun _ => ?_) | refine zAp (fun _ => ?_))
      exact ⟨(k + 1, _), hk', by simp only; omega, x_wkd 1 ⟨rfl, rfl, trivial⟩ (by simp only [hl1, hc1]; rfl) (by repeat (first | exact ag_refl | refine ag_upd rfl ?_ | refine ag_at rfl rfl ?_))⟩
    · rw [d] at hsn
      have hl1 : (cutl (l.take (k + 1)) i).length = (cutl (l.take k) i).length := by rw [hsn]; rfl
      have hc1 : (cutl (l.take (k + 1)) i).flatMap Tr.ts = (cutl (l.take k) i).flatMap Tr.ts := by rw [hsn]; rfl
      clear hsn
      obtain ⟨tn, tfs⟩ := a
      repeat (first | refine gG ?_ | refine zN1 (fun hlen => ?_) | refine zN2 (fun hlen => ?_) | refine zAl (fun _ => ?_) | refine zAp (fun _ => ?_))
      refine zIx (k) (hk') ?_
      repeat (first | refine gG ?_ | refine zN1 (fun hlen => ?_) | refine zN2 (fun hlen => ?_) | refine zAl (fun _ => ?_) | refine zAp (fun _ => ?_))
      refine zEl (hat) (Tr.ts_len _) ?_
      repeat (first | refine gG ?_ | refine zN1 (fun hlen => ?_) | refine zN2 (fun hlen => ?_) | refine zAl (fun _ => ?_) | refine zAp (fun _ => ?_))
      exact ⟨(k + 1, v), hk', by simp only; omega, x_wkd 1 ⟨rfl, rfl, trivial⟩ (by simp only [hl1, hc1]; rfl) (by repeat (first | exact ag_refl | refine ag_upd rfl ?_ | refine ag_at rfl rfl ?_))⟩
  · have hk' : k = l.length := by
      have : ¬ k < l.length := by simpa using h
      omega
    subst hk'
    clear h
    rw [List.take_length]
    repeat (first | refine gG ?_ | refine zN1 (fun hlen => ?_) | refine zN2 (fun hlen => ?_) | refine zAl (fun _ => ?_) | refine zAp (fun _ => ?_))
    first | refine zR ?_ | refine zQ ?_
    rfl
set_option maxRecDepth 100000 in
set_option maxHeartbeats 4000000 in
theorem cutIm_af (l : List Im) (i : Int) (hl : l.length ≤ 1048576) : AF Tryd.prog 22 [Im.row l, .lit (.int .i64 i)] (· = Im.row (cutl l i)) := by
  refine af_enter tok Tryd.func22 Tryd.ntmps22 Tryd.results22 rfl (by kernel_rfl) rfl rfl fun F hX => ?_
  repeat (first | refine gG ?_ | refine zN1 (fun hlen => ?_) | refine zN2 (fun hlen => ?_) | refine zAl (fun _ => ?_) | refine zAp (fun _ => ?_))
  refine x_own 5 61 3 rfl rfl rfl rfl rfl ?_
  refine x_loop [5, 6, 7, 10, 11, 12, 13, 14, 15, 16, 17, 18, 19, 20, 21, 22] (fun y : Nat × Value => [(10, .c (.lit (.int .i64 (y.1 : Nat)))), (5, .own 0 y.2)]) (fun y => [.row y.2 61 3 (cutl (l.take y.1) i).length ((cutl (l.take y.1) i).flatMap Im.ts)])
    (fun y => y.1 ≤ l.length) (fun y => l.length - y.1) (0, .slice none 0 0) (Nat.zero_le _) ⟨rfl, rfl, trivial⟩ (by simp only [List.take_zero, cutl_nil]; rfl) ?_
  rintro ⟨k, v⟩ hk
  dsimp only at hk ⊢
  repeat (first | refine gG ?_ | refine zN1 (fun hlen => ?_) | refine zN2 (fun hlen => ?_) | refine zAl (fun _ => ?_) | refine zAp (fun _ => ?_))
  refine x_cond rfl (fun h => ?_) (fun h => ?_)
  · have hk' : k < l.length := by simpa using h
    obtain ⟨a, ha⟩ := nth hk'
    have hsn := cutl_snoc ha i
    have hle : (cutl (l.take k) i).length ≤ 1048576 := Nat.le_trans (cutl_le _ i) (by rw [List.length_take]; omega)
    have hat := Im.at ha
    clear h ha
    cases d : decide (((k : Nat) : Int) = i)
    · rw [d] at hsn
      have hl1 : (cutl (l.take (k + 1)) i).length = (cutl (l.take k) i).length + 1 := by rw [hsn]; simp
      have hc1 : (cutl (l.take (k + 1)) i).flatMap Im.ts = (cutl (l.take k) i).flatMap Im.ts ++ a.ts := by rw [hsn]; simp
      clear hsn
      obtain ⟨it, idt, ifs⟩ := a
      repeat (first | refine gG ?_ | refine zN1 (fun hlen => ?_) | refine zN2 (fun hlen => ?_) | refine zAl (fun _ => ?_) | refine zAp (fun _ => ?_))
      refine zIx (k) (hk') ?_
      repeat (first | refine gG ?_ | refine zN1 (fun hlen => ?_) | refine zN2 (fun hlen => ?_) | refine zAl (fun _ => ?_) | refine zAp (fun _ => ?_))
      refine zEl (hat) (Im.ts_len _) ?_
      repeat (first | refine gG ?_ | refine zN1 (fun hlen => ?_) | refine zN2 (fun hlen => ?_) | refine zAl (fun _ => ?_) | refine zAp (fun _ => ?_))
      exact ⟨(k + 1, _), hk', by simp only; omega, x_wkd 1 ⟨rfl, rfl, trivial⟩ (by simp only [hl1, hc1]; rfl) (by repeat (first | exact ag_refl | refine ag_upd rfl ?_ | refine ag_at rfl rfl ?_))⟩
    · rw [d] at hsn
      have hl1 : (cutl (l.take (k + 1)) i).length = (cutl (l.take k) i).length := by rw [hsn]; rfl
      have hc1 : (cutl (l.take (k + 1)) i).flatMap Im.ts = (cutl (l.take k) i).flatMap Im.ts := by rw [hsn]; rfl
      clear hsn
      obtain ⟨it, idt, ifs⟩ := a
      repeat (first | refine gG ?_ | refine zN1 (fun hlen => ?_) | refine zN2 (fun hlen => ?_) | refine zAl (fun _ => ?_) | refine zAp (fun _ => ?_))
      refine zIx (k) (hk') ?_
      repeat (first | refine gG ?_ | refine zN1 (fun hlen => ?_) | refine zN2 (fun hlen => ?_) | refine zAl (fun _ => ?_) | refine zAp (fun _ => ?_))
      refine zEl (hat) (Im.ts_len _) ?_
      repeat (first | refine gG ?_ | refine zN1 (fun hlen => ?_) | refine zN2 (fun hlen => ?_) | refine zAl (fun _ => ?_) | refine zAp (fun _ => ?_))
      exact ⟨(k + 1, v), hk', by simp only; omega, x_wkd 1 ⟨rfl, rfl, trivial⟩ (by simp only [hl1, hc1]; rfl) (by repeat (first | exact ag_refl | refine ag_upd rfl ?_ | refine ag_at rfl rfl ?_))⟩
  · have hk' : k = l.length := by
      have : ¬ k < l.length := by simpa using h
      omega
    subst hk'
    clear h
    rw [List.take_length]
    repeat (first | refine gG ?_ | refine zN1 (fun hlen => ?_) | refine zN2 (fun hlen => ?_) | refine zAl (fun _ => ?_) | refine zAp (fun _ => ?_))
    first | refine zR ?_ | refine zQ ?_
    rfl
set_option maxRecDepth 100000 in
set_option maxHeartbeats 4000000 in
theorem cutFu_af (l : List Fu) (i : Int) (hl : l.length ≤ 1048576) : AF Tryd.prog 23 [Fu.row l, .lit (.int .i64 i)] (· = Fu.row (cutl l i)) := by
  refine af_enter tok Tryd.func23 Tryd.ntmps23 Tryd.results23 rfl (by kernel_rfl) rfl rfl fun F hX => ?_
  repeat (first | refine gG ?_ | refine zN1 (fun hlen => ?_) | refine zN2 (fun hlen => ?_) | refine zAl (fun _ => ?_) | refine zAp (fun _ => ?_))
  refine x_own 5 66 15 rfl rfl rfl rfl rfl ?_
  refine x_loop [5, 6, 7, 10, 11, 12, 13, 14, 15, 16, 17, 18, 19, 20, 21, 22] (fun y : Nat × Value => [(10, .c (.lit (.int .i64 (y.1 : Nat)))), (5, .own 0 y.2)]) (fun y => [.row y.2 66 15 (cutl (l.take y.1) i).length ((cutl (l.take y.1) i).flatMap Fu.ts)])
    (fun y => y.1 ≤ l.length) (fun y => l.length - y.1) (0, .slice none 0 0) (Nat.zero_le _) ⟨rfl, rfl, trivial⟩ (by simp only [List.take_zero, cutl_nil]; rfl) ?_
  rintro ⟨k, v⟩ hk
  dsimp only at hk ⊢
  repeat (first | refine gG ?_ | refine zN1 (fun hlen => ?_) | refine zN2 (fun hlen => ?_) | refine zAl (fun _ => ?_) | refine zAp (fun _ => ?_))
  refine x_cond rfl (fun h => ?_) (fun h => ?_)
  · have hk' : k < l.length := by simpa using h
    obtain ⟨a, ha⟩ := nth hk'
    have hsn := cutl_snoc ha i
    have hle : (cutl (l.take k) i).length ≤ 1048576 := Nat.le_trans (cutl_le _ i) (by rw [List.length_take]; omega)
    have hat := Fu.at ha
    clear h ha
    cases d : decide (((k : Nat) : Int) = i)
    · rw [d] at hsn
      have hl1 : (cutl (l.take (k + 1)) i).length = (cutl (l.take k) i).length + 1 := by rw [hsn]; simp
      have hc1 : (cutl (l.take (k + 1)) i).flatMap Fu.ts = (cutl (l.take k) i).flatMap Fu.ts ++ a.ts := by rw [hsn]; simp
      clear hsn
      obtain ⟨nm, pas, nas, tys, ⟨ok, on, oa⟩, ⟨ka, na, ta, nsa, ysa, la, rsa, pa⟩⟩ := a
      repeat (first | refine gG ?_ | refine zN1 (fun hlen => ?_) | refine zN2 (fun hlen => ?_) | refine zAl (fun _ => ?_) | refine zAp (fun _ => ?_))
      refine zIx (k) (hk') ?_
      repeat (first | refine gG ?_ | refine zN1 (fun hlen => ?_) | refine zN2 (fun hlen => ?_) | refine zAl (fun _ => ?_) | refine zAp (fun _ => ?_))
      refine zEl (hat) (Fu.ts_len _) ?_
      repeat (first | refine gG ?_ | refine zN1 (fun hlen => ?_) | refine zN2 (fun hlen => ?_) | refine zAl (fun _ => ?_) | refine zAp (fun _ => ?_))
      exact ⟨(k + 1, _), hk', by simp only; omega, x_wkd 1 ⟨rfl, rfl, trivial⟩ (by simp only [hl1, hc1]; rfl) (by repeat (first | exact ag_refl | refine ag_upd rfl ?_ | refine ag_at rfl rfl ?_))⟩
    · rw [d] at hsn
      have hl1 : (cutl (l.take (k + 1)) i).length = (cutl (l.take k) i).length := by rw [hsn]; rfl
      have hc1 : (cutl (l.take (k + 1)) i).flatMap Fu.ts = (cutl (l.take k) i).flatMap Fu.ts := by rw [hsn]; rfl
      clear hsn
      obtain ⟨nm, pas, nas, tys, ⟨ok, on, oa⟩, ⟨ka, na, ta, nsa, ysa, la, rsa, pa⟩⟩ := a
      repeat (first | refine gG ?_ | refine zN1 (fun hlen => ?_) | refine zN2 (fun hlen => ?_) | refine zAl (fun _ => ?_) | refine zAp (fun _ => ?_))
      refine zIx (k) (hk') ?_
      repeat (first | refine gG ?_ | refine zN1 (fun hlen => ?_) | refine zN2 (fun hlen => ?_) | refine zAl (fun _ => ?_) | refine zAp (fun _ => ?_))
      refine zEl (hat) (Fu.ts_len _) ?_
      repeat (first | refine gG ?_ | refine zN1 (fun hlen => ?_) | refine zN2 (fun hlen => ?_) | refine zAl (fun _ => ?_) | refine zAp (fun _ => ?_))
      exact ⟨(k + 1, v), hk', by simp only; omega, x_wkd 1 ⟨rfl, rfl, trivial⟩ (by simp only [hl1, hc1]; rfl) (by repeat (first | exact ag_refl | refine ag_upd rfl ?_ | refine ag_at rfl rfl ?_))⟩
  · have hk' : k = l.length := by
      have : ¬ k < l.length := by simpa using h
      omega
    subst hk'
    clear h
    rw [List.take_length]
    repeat (first | refine gG ?_ | refine zN1 (fun hlen => ?_) | refine zN2 (fun hlen => ?_) | refine zAl (fun _ => ?_) | refine zAp (fun _ => ?_))
    first | refine zR ?_ | refine zQ ?_
    rfl
set_option maxRecDepth 100000 in
set_option maxHeartbeats 4000000 in
theorem cutAc_af (l : List Ac) (i : Int) (hl : l.length ≤ 1048576) : AF Tryd.prog 24 [Ac.row l, .lit (.int .i64 i)] (· = Ac.row (cutl l i)) := by
  refine af_enter tok Tryd.func24 Tryd.ntmps24 Tryd.results24 rfl (by kernel_rfl) rfl rfl fun F hX => ?_
  repeat (first | refine gG ?_ | refine zN1 (fun hlen => ?_) | refine zN2 (fun hlen => ?_) | refine zAl (fun _ => ?_) | refine zAp (fun _ => ?_))
  refine x_own 5 69 14 rfl rfl rfl rfl rfl ?_
  refine x_loop [5, 6, 7, 10, 11, 12, 13, 14, 15, 16, 17, 18, 19, 20, 21, 22] (fun y : Nat × Value => [(10, .c (.lit (.int .i64 (y.1 : Nat)))), (5, .own 0 y.2)]) (fun y => [.row y.2 69 14 (cutl (l.take y.1) i).length ((cutl (l.take y.1) i).flatMap Ac.ts)])
    (fun y => y.1 ≤ l.length) (fun y => l.length - y.1) (0, .slice none 0 0) (Nat.zero_le _) ⟨rfl, rfl, trivial⟩ (by simp only [List.take_zero, cutl_nil]; rfl) ?_
  rintro ⟨k, v⟩ hk
  dsimp only at hk ⊢
  repeat (first | refine gG ?_ | refine zN1 (fun hlen => ?_) | refine zN2 (fun hlen => ?_) | refine zAl (fun _ => ?_) | refine zAp (fun _ => ?_))
  refine x_cond rfl (fun h => ?_) (fun h => ?_)
  · have hk' : k < l.length := by simpa using h
    obtain ⟨a, ha⟩ := nth hk'
    have hsn := cutl_snoc ha i
    have hle : (cutl (l.take k) i).length ≤ 1048576 := Nat.le_trans (cutl_le _ i) (by rw [List.length_take]; omega)
    have hat := Ac.at ha
    clear h ha
    cases d : decide (((k : Nat) : Int) = i)
    · rw [d] at hsn
      have hl1 : (cutl (l.take (k + 1)) i).length = (cutl (l.take k) i).length + 1 := by rw [hsn]; simp
      have hc1 : (cutl (l.take (k + 1)) i).flatMap Ac.ts = (cutl (l.take k) i).flatMap Ac.ts ++ a.ts := by rw [hsn]; simp
      clear hsn
      obtain ⟨an, ans, ats, ⟨mk, mn, ma⟩, ⟨ka, na, ta, nsa, ysa, la, rsa, pa⟩⟩ := a
      repeat (first | refine gG ?_ | refine zN1 (fun hlen => ?_) | refine zN2 (fun hlen => ?_) | refine zAl (fun _ => ?_) | refine zAp (fun _ => ?_))
      refine zIx (k) (hk') ?_
      repeat (first | refine gG ?_ | refine zN1 (fun hlen => ?_) | refine zN2 (fun hlen => ?_) | refine zAl (fun _ => ?_) | refine zAp (fun _ => ?_))
      refine zEl (hat) (Ac.ts_len _) ?_
      repeat (first | refine gG ?_ | refine zN1 (fun hlen => ?_) | refine zN2 (fun hlen => ?_) | refine zAl (fun _ => ?_) | refine zAp (fun _ => ?_))
      exact ⟨(k + 1, _), hk', by simp only; omega, x_wkd 1 ⟨rfl, rfl, trivial⟩ (by simp only [hl1, hc1]; rfl) (by repeat (first | exact ag_refl | refine ag_upd rfl ?_ | refine ag_at rfl rfl ?_))⟩
    · rw [d] at hsn
      have hl1 : (cutl (l.take (k + 1)) i).length = (cutl (l.take k) i).length := by rw [hsn]; rfl
      have hc1 : (cutl (l.take (k + 1)) i).flatMap Ac.ts = (cutl (l.take k) i).flatMap Ac.ts := by rw [hsn]; rfl
      clear hsn
      obtain ⟨an, ans, ats, ⟨mk, mn, ma⟩, ⟨ka, na, ta, nsa, ysa, la, rsa, pa⟩⟩ := a
      repeat (first | refine gG ?_ | refine zN1 (fun hlen => ?_) | refine zN2 (fun hlen => ?_) | refine zAl (fun _ => ?_) | refine zAp (fun _ => ?_))
      refine zIx (k) (hk') ?_
      repeat (first | refine gG ?_ | refine zN1 (fun hlen => ?_) | refine zN2 (fun hlen => ?_) | refine zAl (fun _ => ?_) | refine zAp (fun _ => ?_))
      refine zEl (hat) (Ac.ts_len _) ?_
      repeat (first | refine gG ?_ | refine zN1 (fun hlen => ?_) | refine zN2 (fun hlen => ?_) | refine zAl (fun _ => ?_) | refine zAp (fun _ => ?_))
      exact ⟨(k + 1, v), hk', by simp only; omega, x_wkd 1 ⟨rfl, rfl, trivial⟩ (by simp only [hl1, hc1]; rfl) (by repeat (first | exact ag_refl | refine ag_upd rfl ?_ | refine ag_at rfl rfl ?_))⟩
  · have hk' : k = l.length := by
      have : ¬ k < l.length := by simpa using h
      omega
    subst hk'
    clear h
    rw [List.take_length]
    repeat (first | refine gG ?_ | refine zN1 (fun hlen => ?_) | refine zN2 (fun hlen => ?_) | refine zAl (fun _ => ?_) | refine zAp (fun _ => ?_))
    first | refine zR ?_ | refine zQ ?_
    rfl
set_option maxRecDepth 100000 in
set_option maxHeartbeats 4000000 in
theorem dropNext_ag (b : Nat) (k : Int) (n : Nat) (hk : -1099511627776 ≤ k) (hk2 : k ≤ 1099511627776) (hn : n ≤ 1048576) : AG Tryd.prog 19 [.ptr 0 b 0, .c (.lit (.int .i64 (n : Nat)))] [.box b 3 [.c (.lit (.int .i64 k))]]
    (fun r hs => r = .c (.lit (.int .i64 (dropAt k n))) ∧ hs = [.box b 3 [.c (.lit (.int .i64 (k - n)))]]) := by
  cases d1 : decide (0 ≤ k)
  · have hr : dropAt k n = -1 := by simp [dropAt, d1]
    rw [hr]
    refine ag_enter 1 tok Tryd.func19 Tryd.ntmps19 Tryd.results19 rfl (by kernel_rfl) rfl fun F => ?_
    repeat (first | refine gG ?_ | refine zSub ?_)
    refine zG ?_
    exact ⟨rfl, rfl⟩
  · cases d2 : decide (k < ((n : Nat) : Int))
    · have hr : dropAt k n = -1 := by simp [dropAt, d1, d2]
      rw [hr]
      refine ag_enter 1 tok Tryd.func19 Tryd.ntmps19 Tryd.results19 rfl (by kernel_rfl) rfl fun F => ?_
      repeat (first | refine gG ?_ | refine zSub ?_)
      refine zG ?_
      exact ⟨rfl, rfl⟩
    · have hr : dropAt k n = k := by simp [dropAt, d1, d2]
      rw [hr]
      refine ag_enter 1 tok Tryd.func19 Tryd.ntmps19 Tryd.results19 rfl (by kernel_rfl) rfl fun F => ?_
      repeat (first | refine gG ?_ | refine zSub ?_)
      refine zG ?_
      exact ⟨rfl, rfl⟩
end Go.Proofs.YtllgibfmddihgaaDoor
namespace Go.Proofs.YtllgibfmddihgaaDoor
open Go.RowKit
mutual
def Ex.walk : Ex → List Ex
  | .mk k n t ns ys l rs a => .mk k n t ns ys l rs a :: (Ex.walks l ++ Ar.walks rs)
def Ex.walks : List Ex → List Ex
  | [] => []
  | v :: r => v.walk ++ Ex.walks r
def Ar.walks : List Ar → List Ex
  | [] => []
  | .mk _ b :: r => b.walk ++ Ar.walks r
end
end Go.Proofs.YtllgibfmddihgaaDoor
namespace Go.Proofs.YtllgibfmddihgaaDoor
open Go.RowKit
mutual
def V.nodes : V → Nat
  | .mk _ _ _ l => 1 + V.nodesAll l
def V.nodesAll : List V → Nat
  | [] => 0
  | v :: r => v.nodes + V.nodesAll r
end
def Ar.pn (a : Ar) : Nat := a.pat.nodes
def Ex.count1 (x : Ex) : Nat := 1 + (x.arms.map Ar.pn).sum
def Ex.count (e : Ex) : Nat := (e.walk.map Ex.count1).sum
def Pr.count (p : Pr) : Nat := (p.bodies.map Ex.count).sum
end Go.Proofs.YtllgibfmddihgaaDoor
namespace Go.Proofs.YtllgibfmddihgaaDoor
open Go.RowKit
theorem dec_le : ∀ (n u : Nat), u < 10 ^ (n + 1) → (Lib.decDigits u).length ≤ n + 1
  | 0, u, h => by rw [Lib.decDigits, dif_pos (by simpa using h)]; exact Nat.le_refl _
  | n + 1, u, h => by
    rw [Lib.decDigits]
    split
    · simp
    · have := dec_le n (u / 10) (by rw [Nat.pow_succ] at h; omega)
      rw [List.length_append]
      simp only [List.length_cons, List.length_nil]
      omega
theorem numB_le {n : Int} (h : inI n) : (numB n).length ≤ 21 := by
  obtain ⟨h1, h2⟩ := h
  have key : ∀ u : Nat, u ≤ 9223372036854775808 → (Lib.decDigits u).length ≤ 19 := fun u hu => dec_le 18 u (by omega)
  unfold numB Lib.itoa
  rw [List.length_append]
  split
  · rw [List.length_cons]
    have := key n.natAbs (by omega)
    simp only [List.length_cons, List.length_nil]
    first | omega | (have := key (-n).toNat (by omega); omega)
  · have := key n.natAbs (by omega)
    simp only [List.length_cons, List.length_nil]
    first | omega | (have := key n.toNat (by omega); omega)
theorem numB_far {n : Int} (h : far n ≤ 1048576) : (numB n).length ≤ 21 * far n := by
  have := numB_le (far_in h)
  have := far_pos n
  omega
theorem numB_nat {n : Nat} (h : n ≤ 1048576) : (numB (n : Int)).length ≤ 21 := numB_le (inI_nat (by omega))
theorem textB_le {s : ByteArray} (h : s.size ≤ 1048576) : (textB s).length ≤ 21 * (s.size + 1) := by
  have h1 := numB_nat h
  have h2 : s.data.toList.length = s.size := rfl
  rw [textB, List.length_append]
  omega
theorem flat21 {α : Type} (f : α → List UInt8) (μ : α → Nat) : ∀ l : List α, (∀ a ∈ l, (f a).length ≤ 21 * μ a) → (l.flatMap f).length ≤ 21 * (l.map μ).sum
  | [], _ => Nat.le_refl _
  | a :: l, h => by
    have h1 := h a (by simp)
    have h2 := flat21 f μ l (fun x hx => h x (List.mem_cons_of_mem _ hx))
    rw [List.flatMap_cons, List.length_append, List.map_cons, List.sum_cons]
    omega
theorem textsB_le {l : List ByteArray} (h : strSize l ≤ 1048576) : (textsB l).length ≤ 21 * strSize l :=
  flat21 textB (fun s => s.size + 1) l fun a ha => textB_le (by have := sum_mem' (fun s : ByteArray => s.size + 1) ha; unfold strSize at h; omega)
theorem namesB_le {l : List ByteArray} (h : strSize l ≤ 1048576) : (namesB l).length ≤ 21 * (strSize l + 1) := by
  have h1 := textsB_le h
  have h2 := numB_nat (Nat.le_trans (strSize_len l) h)
  rw [namesB, List.length_append]
  omega
theorem Y.mass_pos (v : Y) : 1 ≤ v.mass := by cases v; rename_i k _ _; have := far_pos k; simp only [Y.mass]; omega
theorem V.mass_pos (v : V) : 1 ≤ v.mass := by cases v; rename_i k _ _ _; have := far_pos k; simp only [V.mass]; omega
theorem Ex.mass_pos (v : Ex) : 1 ≤ v.mass := by cases v; rename_i k _ _ _ _ _ _ _; have := far_pos k; simp only [Ex.mass]; omega
theorem Ar.mass_pos (v : Ar) : 1 ≤ v.mass := by cases v; rename_i p _; have := V.mass_pos p; simp only [Ar.mass]; omega
theorem Y.mark_le (v : Y) : v.mass ≤ 1048576 → v.mark.length ≤ 21 * v.mass := by
  induction v using Y.ind with
  | h k n l ih =>
    intro h
    simp only [Y.mass, Y.masses_sum] at h ⊢
    have h1 := flat21 Y.mark Y.mass l (fun x hx => ih x hx (by have := sum_mem' Y.mass hx; omega))
    have h2 := numB_nat (n := l.length) (by have := len_sum' Y.mass Y.mass_pos l; omega)
    have h3 := numB_far (n := k) (by omega)
    have h4 := textB_le (s := n) (by omega)
    simp only [Y.mark, Y.marks_eq, List.length_append]
    omega
theorem V.mark_le (v : V) : v.mass ≤ 1048576 → v.mark.length ≤ 21 * v.mass := by
  induction v using V.ind with
  | h k n t l ih =>
    intro h
    simp only [V.mass, V.masses_sum] at h ⊢
    have h1 := flat21 V.mark V.mass l (fun x hx => ih x hx (by have := sum_mem' V.mass hx; omega))
    have h2 := numB_nat (n := l.length) (by have := len_sum' V.mass V.mass_pos l; omega)
    have h3 := numB_far (n := k) (by omega)
    have h5 := numB_far (n := n) (by omega)
    have h4 := textB_le (s := t) (by omega)
    simp only [V.mark, V.marks_eq, List.length_append]
    omega
theorem Ex.mark_le (v : Ex) : v.mass ≤ 1048576 → v.mark.length ≤ 21 * v.mass := by
  induction v using Ex.ind with
  | h k n t ns ys l rs a ih1 ih2 =>
    intro h
    simp only [Ex.mass, Ex.masses_sum, Ar.masses_sum, Y.masses_sum] at h ⊢
    have h1 := numB_far (n := k) (by omega)
    have h2 := numB_far (n := n) (by omega)
    have h3 := textB_le (s := t) (by omega)
    have h4 := textsB_le (l := ns) (by omega)
    have h5 := flat21 Y.mark Y.mass ys (fun x hx => Y.mark_le x (by have := sum_mem' Y.mass hx; omega))
    have h6 := flat21 Ex.mark Ex.mass l (fun x hx => ih1 x hx (by have := sum_mem' Ex.mass hx; omega))
    have h7 := flat21 Ar.mark Ar.mass rs (fun x hx => by
      have h2 := sum_mem' Ar.mass hx
      obtain ⟨p, b⟩ := x
      simp only [Ar.mass] at h2
      have h8 := p.mark_le (by omega)
      have h9 := ih2 _ hx p b rfl (by omega)
      simp only [Ar.mark, Ar.mass, List.length_append]
      omega)
    have g1 := numB_nat (n := ns.length) (by have := strSize_len ns; omega)
    have g2 := numB_nat (n := ys.length) (by have := len_sum' Y.mass Y.mass_pos ys; omega)
    have g3 := numB_nat (n := l.length) (by have := len_sum' Ex.mass Ex.mass_pos l; omega)
    have g4 := numB_nat (n := rs.length) (by have := len_sum' Ar.mass Ar.mass_pos rs; omega)
    simp only [Ex.mark, Ex.marks_eq, Ar.marks_eq, List.length_append]
    omega
theorem typesB_le {l : List Y} (h : (l.map Y.mass).sum ≤ 1048576) : (typesB l).length ≤ 21 * ((l.map Y.mass).sum + 1) := by
  have h1 := flat21 Y.mark Y.mass l (fun x hx => Y.mark_le x (by have := sum_mem' Y.mass hx; omega))
  have h2 := numB_nat (n := l.length) (by have := len_sum' Y.mass Y.mass_pos l; omega)
  rw [typesB, List.length_append]
  omega
theorem Us.mass_pos (v : Us) : 1 ≤ v.mass := by unfold Us.mass; omega
theorem Mk.mass_pos (v : Mk) : 1 ≤ v.mass := by unfold Mk.mass; omega
theorem Da.mass_pos (v : Da) : 1 ≤ v.mass := by unfold Da.mass; omega
theorem Fu.mass_pos (v : Fu) : 1 ≤ v.mass := by unfold Fu.mass; omega
theorem Tr.mass_pos (v : Tr) : 1 ≤ v.mass := by unfold Tr.mass; omega
theorem Im.mass_pos (v : Im) : 1 ≤ v.mass := by unfold Im.mass; omega
theorem Ac.mass_pos (v : Ac) : 1 ≤ v.mass := by unfold Ac.mass; omega
theorem Us.mark_le (v : Us) (h : v.mass ≤ 1048576) : v.mark.length ≤ 21 * v.mass := by
  unfold Us.mass at h ⊢
  have h1 := textB_le (s := v.name) (by omega)
  have h2 := numB_far (n := v.low) (by omega)
  have h3 := numB_far (n := v.high) (by omega)
  simp only [Us.mark, List.length_append]
  omega
theorem Mk.mark_le (v : Mk) (h : v.mass ≤ 1048576) : v.mark.length ≤ 21 * v.mass := by
  unfold Mk.mass at h ⊢
  have h1 := textB_le (s := v.name) (by omega)
  have h2 := typesB_le (l := v.args) (by omega)
  simp only [Mk.mark, List.length_append]
  omega
theorem Da.mark_le (v : Da) (h : v.mass ≤ 1048576) : v.mark.length ≤ 21 * v.mass := by
  unfold Da.mass at h ⊢
  have h1 := textB_le (s := v.name) (by omega)
  have h2 := namesB_le (l := v.params) (by omega)
  have h3 := flat21 Mk.mark Mk.mass v.makes (fun x hx => Mk.mark_le x (by have := sum_mem' Mk.mass hx; omega))
  have h4 := numB_nat (n := v.makes.length) (by have := len_sum' Mk.mass Mk.mass_pos v.makes; omega)
  simp only [Da.mark, List.length_append]
  omega
theorem Fu.mark_le (v : Fu) (h : v.mass ≤ 1048576) : v.mark.length ≤ 21 * v.mass := by
  unfold Fu.mass at h ⊢
  have h1 := textB_le (s := v.name) (by omega)
  have h2 := namesB_le (l := v.params) (by omega)
  have h3 := namesB_le (l := v.names) (by omega)
  have h4 := typesB_le (l := v.types) (by omega)
  have h5 := v.out.mark_le (by omega)
  have h6 := v.body.mark_le (by omega)
  simp only [Fu.mark, List.length_append]
  omega
theorem funcsB_le {l : List Fu} (h : (l.map Fu.mass).sum ≤ 1048576) : (funcsB l).length ≤ 21 * ((l.map Fu.mass).sum + 1) := by
  have h1 := flat21 Fu.mark Fu.mass l (fun x hx => Fu.mark_le x (by have := sum_mem' Fu.mass hx; omega))
  have h2 := numB_nat (n := l.length) (by have := len_sum' Fu.mass Fu.mass_pos l; omega)
  rw [funcsB, List.length_append]
  omega
theorem Tr.mark_le (v : Tr) (h : v.mass ≤ 1048576) : v.mark.length ≤ 21 * v.mass := by
  unfold Tr.mass at h ⊢
  have h1 := textB_le (s := v.name) (by omega)
  have h2 := funcsB_le (l := v.funcs) (by omega)
  simp only [Tr.mark, List.length_append]
  omega
theorem Im.mark_le (v : Im) (h : v.mass ≤ 1048576) : v.mark.length ≤ 21 * v.mass := by
  unfold Im.mass at h ⊢
  have h1 := textB_le (s := v.trait) (by omega)
  have h3 := textB_le (s := v.dat) (by omega)
  have h2 := funcsB_le (l := v.funcs) (by omega)
  simp only [Im.mark, List.length_append]
  omega
theorem Ac.mark_le (v : Ac) (h : v.mass ≤ 1048576) : v.mark.length ≤ 21 * v.mass := by
  unfold Ac.mass at h ⊢
  have h1 := textB_le (s := v.name) (by omega)
  have h3 := namesB_le (l := v.names) (by omega)
  have h4 := typesB_le (l := v.types) (by omega)
  have h5 := v.msg.mark_le (by omega)
  have h6 := v.body.mark_le (by omega)
  simp only [Ac.mark, List.length_append]
  omega
theorem Pr.mark_le (v : Pr) (h : v.mass ≤ 1048576) : v.mark.length ≤ 21 * v.mass := by
  unfold Pr.mass at h ⊢
  have h1 := textB_le (s := v.name) (by omega)
  have h2 := numB_far (n := v.version) (by omega)
  have h3 := flat21 Us.mark Us.mass v.uses (fun x hx => Us.mark_le x (by have := sum_mem' Us.mass hx; omega))
  have h4 := flat21 Da.mark Da.mass v.datas (fun x hx => Da.mark_le x (by have := sum_mem' Da.mass hx; omega))
  have h5 := flat21 Tr.mark Tr.mass v.traits (fun x hx => Tr.mark_le x (by have := sum_mem' Tr.mass hx; omega))
  have h6 := flat21 Im.mark Im.mass v.impls (fun x hx => Im.mark_le x (by have := sum_mem' Im.mass hx; omega))
  have h7 := funcsB_le (l := v.funcs) (by omega)
  have h8 := flat21 Ac.mark Ac.mass v.actors (fun x hx => Ac.mark_le x (by have := sum_mem' Ac.mass hx; omega))
  have g1 := numB_nat (n := v.uses.length) (by have := len_sum' Us.mass Us.mass_pos v.uses; omega)
  have g2 := numB_nat (n := v.datas.length) (by have := len_sum' Da.mass Da.mass_pos v.datas; omega)
  have g3 := numB_nat (n := v.traits.length) (by have := len_sum' Tr.mass Tr.mass_pos v.traits; omega)
  have g4 := numB_nat (n := v.impls.length) (by have := len_sum' Im.mass Im.mass_pos v.impls; omega)
  have g5 := numB_nat (n := v.actors.length) (by have := len_sum' Ac.mass Ac.mass_pos v.actors; omega)
  simp only [Pr.mark, List.length_append]
  omega
theorem sumle {α : Type} (f g : α → Nat) : ∀ l : List α, (∀ a ∈ l, f a ≤ g a) → (l.map f).sum ≤ (l.map g).sum
  | [], _ => Nat.le_refl _
  | a :: l, h => by
    have h1 := h a (by simp)
    have h2 := sumle f g l (fun x hx => h x (List.mem_cons_of_mem _ hx))
    rw [List.map_cons, List.sum_cons, List.map_cons, List.sum_cons]
    omega
theorem fsum (l : List Im) : ((l.flatMap Im.funcs).map Fu.mass).sum ≤ (l.map Im.mass).sum := by
  induction l with
  | nil => exact Nat.le_refl _
  | cons a l ih => simp only [List.flatMap_cons, List.map_append, List.sum_append, List.map_cons, List.sum_cons, Im.mass]; omega
theorem Pr.masses (p : Pr) : (p.bodies.map Ex.mass).sum ≤ p.mass := by
  have h1 := fsum p.impls
  have h2 := sumle (fun f : Fu => f.body.mass) Fu.mass p.funs (fun f _ => by unfold Fu.mass; omega)
  have h3 := sumle (fun f : Ac => f.body.mass) Ac.mass p.actors (fun f _ => by unfold Ac.mass; omega)
  have e1 : (p.funs.map Fu.mass).sum = ((p.impls.flatMap Im.funcs).map Fu.mass).sum + (p.funcs.map Fu.mass).sum := by rw [Pr.funs, List.map_append, List.sum_append]
  rw [Pr.bodies, List.map_append, List.sum_append, List.map_map, List.map_map]
  unfold Pr.mass
  have e2 : (Ex.mass ∘ Fu.body) = fun f : Fu => f.body.mass := rfl
  have e3 : (Ex.mass ∘ Ac.body) = fun f : Ac => f.body.mass := rfl
  rw [e2, e3]
  omega
end Go.Proofs.YtllgibfmddihgaaDoor
namespace Go.Proofs.YtllgibfmddihgaaDoor
open Go.RowKit
theorem lo_eqsr {P : Program} {F : Frm} {d : Option Tmp} {ty : TypeId} {pos : String} {aft : Array Edge} {g : Option (Nat × Bool)} {ρ : Operand → AV} {hp : List Blk} {K : AV → List Blk → Prop} {t t' : TypeId} {x y : Operand} {a b : ByteArray} {r : Bool} (hr : decide (a = b) = r) (h : K (.c (.lit (.bool r))) hp) (hx : ρ x = .c (.lit (.string a)) := by exact rfl) (hy : ρ y = .c (.lit (.string b)) := by exact rfl) : LO P F ⟨d, .binOp .eql t x y t', ty, pos, aft, g⟩ ρ hp K :=
  lo_eqs hx hy (hr ▸ h)
end Go.Proofs.YtllgibfmddihgaaDoor
