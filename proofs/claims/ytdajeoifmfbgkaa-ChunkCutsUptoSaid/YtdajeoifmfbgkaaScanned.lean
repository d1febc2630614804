/-
  The walk of roadref5.Scanned.
-/
import Derived.Test.YtdajeoifmfbgkaaClone
import Derived.Test.YtdajeoifmfbgkaaCutPlain
import Derived.Test.YtdajeoifmfbgkaaCuts
import Derived.Deep.DeepCutAuto
import Derived.Deep.CutBlock
import Derived.Deep.QuietTactic
import Derived.BigQuiet
namespace Go.Proofs.Ytdajeoifmfbgkaa
open Go.RowKit

def ScannedRel (w : World) (bs : List UInt8) (o i : Value) (wr : World) : Prop :=
  ∃ (k f : Nat) (dn : List (List UInt8)), k ≤ bs.length ∧ i = .int .i64 k ∧ (bs.drop k).length ≤ f ∧ dn ++ (scanF f (bs.drop k)).1 = (scanF bs.length bs).1 ∧ k + (scanF f (bs.drop k)).2 = (scanF bs.length bs).2 ∧
    wr.ownsRow w.heap.size 9 1 o dn.length (svs dn) ∧ Below w.heap.size w wr ∧ dn.length ≤ k

def ScannedPost (w : World) (bs : List UInt8) (e : Ending) (w' : World) : Prop :=
  ∃ v, e = .returned (.tuple #[v, .int .i64 (scanF bs.length bs).2]) ∧ w'.ownsRow w.heap.size 9 1 v (scanF bs.length bs).1.length (svs (scanF bs.length bs).1) ∧ Below w.heap.size w w'

set_option maxRecDepth 100000 in
set_option maxHeartbeats 400000 in
theorem scanned_walk (A : Option Addr) (n c : Nat) (bs : List UInt8) (w : World) (hr : Rd w w.heap.size 1 A n (bvs bs)) (hn : n ≤ 1048576) (hc : n ≤ c) :
    Calls Try.prog 19 #[.slice A n c] w (ScannedPost w bs) := by
  obtain ⟨i0, hi, hz0, hz1, hz2⟩ := info_parts info_str
  have hlen : bs.length = n := by simpa [bvs] using hr.1
  have HL := Lib.hid hlen; clear hlen
  go_enter Try.func19, Try.ntmps19
  go_wp2
  go_loopw [4, 5] (fun o i wr => ScannedRel w bs o i wr) (fun _ i _ => n - (intOf i).toNat)
  case atStart => exact ⟨0, bs.length, [], Nat.zero_le _, rfl, by simp, by simp, by simp, World.ownsRow_nil _ _ _ _, Below.refl _ _, Nat.le_refl _⟩
  case round =>
    obtain ⟨k, f, dn, hk, rfl, hf, h1, h2, hown, hbl, hps⟩ := hrel
    have H1 := Lib.hid h1; have H2 := Lib.hid h2; have HF := Lib.hid hf
    have hr1 := hr.below hbl
    have hkn : k ≤ n := by have := HL.out; omega
    clear h1 h2 hf
    by_cases hlt : k + 1 < n
    · have hkl : k + 1 < bs.length := by have := HL.out; omega
      obtain ⟨ad, rfl, hadb, hcell⟩ := hr1.get (show k < n by omega)
      obtain ⟨ad', e', _, hcell'⟩ := hr1.get hlt
      obtain rfl : ad = ad' := by injection e'
      rw [bvs_get] at hcell hcell'
      rw [add_succ'] at hcell'
      have HM := fun m => Lib.hid (scanF_more (f := f) (l := bs) (p := k) (n := m) hkl)
      have HW := Lib.hid (scanF_few (f := f) (l := bs) (p := k) hkl)
      have b1 := (bs[k]).toNat_lt
      have b2 := (bs[k + 1]).toNat_lt
      generalize bs[k] = x at *
      generalize bs[k + 1] = y at *
      have hk2 : (k : Int) + 2 ≤ (n : Int) := by omega
      have q1 : (k : Int) < (n : Int) := by omega
      have q2 : (k : Int) + 1 < (n : Int) := by omega
      have q3 : (0 : Int) ≤ (k : Int) + 1 := by omega
      go_wp2_with fail
      have q4 : IntKind.i64.wrap ((k : Int) + 1) = (k : Int) + 1 := IntWalk.i64_in _ (by omega)
      have q5 : ((k : Int) + 1).toNat = k + 1 := by omega
      go_quiet (fail)
      clear q4 q5
      rw [show (256 : Int) * (x.toNat : Int) + (y.toNat : Int) = ((256 * x.toNat + y.toNat : Nat) : Int) by omega]
      have hm : 256 * x.toNat + y.toNat ≤ 65535 := by omega
      generalize 256 * x.toNat + y.toNat = m at *
      clear hcell hcell' b1 b2 q1 q2 q3
      replace hr1 := hr1.drewN nq
      replace hown : (wr.drewN nq).ownsRow w.heap.size 9 1 u4 dn.length (svs dn) := hown
      replace hbl : Below w.heap.size w (wr.drewN nq) := ⟨hbl.os, hbl.tape, hbl.output, hbl.size, hbl.block⟩
      generalize wr.drewN nq = wd at *
      by_cases hfew : n - k - 2 < m
      · have HE := Lib.hid (HW.out (by rw [HL.out]; exact hfew))
        have hfew' : (n : Int) < (k : Int) + 2 + (m : Int) := by omega
        go_wp2_with fail
        go_ret2
        have h1 := H1.out; have h2 := H2.out
        rw [HE.out, List.append_nil] at h1
        rw [HE.out, Nat.add_zero] at h2
        exact ⟨_, by rw [← h2]; rfl, by rw [← h1]; exact hown, hbl⟩
      · have HE := Lib.hid ((HM m).out rfl (by rw [HL.out]; exact hfew) HF.out)
        have hfew' : ¬ (n : Int) < (k : Int) + 2 + (m : Int) := by omega
        have hrt : Rd wd wd.heap.size 1 (if c = k + 2 then some ad else some (ad.add (k + 2))) m (bvs ((bs.drop (k + 2)).take m)) := by
          have := ((hr1.drop (k := k + 2) (cap := c) (by omega) hc).take (k := m) (by omega)).up hbl.size
          rwa [Nat.mul_one, Nat.mul_one, bvs_drop, bvs_take] at this
        have hlt2 : ((bs.drop (k + 2)).take m).length = m := by rw [List.length_take, List.length_drop, HL.out]; omega
        have HLT := Lib.hid hlt2
        clear hlt2 HM HW
        have hcc : k + 2 ≤ c := by omega
        have hrt2 : (c = k + 2 ∧ Rd wd wd.heap.size 1 (some ad) m (bvs ((bs.drop (k + 2)).take m))) ∨ (c ≠ k + 2 ∧ Rd wd wd.heap.size 1 (some { block := ad.block, off := ad.off + (k + 1 + 1) }) m (bvs ((bs.drop (k + 2)).take m))) := by
          by_cases hck : c = k + 2
          · rw [if_pos hck] at hrt; exact .inl ⟨hck, hrt⟩
          · rw [if_neg hck] at hrt
            rw [add_succ' ad (k + 1)] at hrt
            exact .inr ⟨hck, hrt⟩
        clear hrt
        rcases hrt2 with ⟨rfl, hrt⟩ | ⟨hck, hrt⟩
        all_goals
          have hcv := fun cc => run_string_rd (P := Try.prog) 22 9 5 Try.underlying22 Try.underlying5 Try.underlying9 cc hrt
          have HH1 := Lib.hid H1.out
          generalize hp : (bs.drop (k + 2)).take m = p at *
          have hown2 := hown.alloc (.cells #[.string ⟨p.toArray⟩] 9)
          have hbl2 := hbl.alloc hbl.size (.cells #[.string ⟨p.toArray⟩] 9)
          have hone : ∀ u ∈ [Value.string ⟨p.toArray⟩], u.oneCell' = true := by intro u hu; rw [List.mem_singleton.1 hu]; rfl
          have hsrc := Rd.box wd 9 (.string ⟨p.toArray⟩)
          clear hp hown
          go_wp2_with (at_builtin; refine wpList_append_rd rfl (.tmp 32) (.tmp 42) _ rfl w.heap.size 9 i0 _ 1 16 Try.underlying30 hi hz0 hz1 hz2 rfl (by omega) u4 dn.length (svs dn) rfl hown2 (wd.heap.size + 1) (some ⟨wd.heap.size, 0, none⟩) 1 1 [.string ⟨p.toArray⟩] rfl hsrc hone (by simp only [maxLen]; omega) (by omega) hbl2.size ?_; intro v3 w3 hown3 hg3)
          have hb3 := below_own hbl2 hown2 hg3 (Nat.le_refl _) hbl2.size
          have h1 := H1.out; have h2 := H2.out; have hf := HF.out; have hll := HL.out
          rw [HE.out] at h1 h2
          rw [List.length_drop] at hf
          refine ⟨⟨k + (2 + m), f - 1, dn ++ [p], by omega, by go_num, by rw [List.length_drop]; omega, by rw [← h1]; simp, by rw [← h2]; simp only []; omega, ?_, hb3, ?_⟩, ?_⟩
          · simpa [svs, sv] using hown3
          · simp only [List.length_append, List.length_singleton]; omega
          · simp [intOf]; omega
    · have HE := Lib.hid (scanF_short (f := f) (l := bs.drop k) (by rw [List.length_drop, HL.out]; omega))
      have hlt' : ¬ (k : Int) + 2 ≤ (n : Int) := by omega
      go_wp2_with fail
      go_ret2
      have h1 := H1.out; have h2 := H2.out
      rw [HE.out, List.append_nil] at h1
      rw [HE.out, Nat.add_zero] at h2
      exact ⟨_, by rw [← h2]; rfl, by rw [← h1]; exact hown, hbl⟩

end Go.Proofs.Ytdajeoifmfbgkaa
