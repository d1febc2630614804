/-
  The walk of chunk.Cut.
-/
import Derived.Test.YtdajeoifmfbgkaaClone
import Derived.Test.YtdajeoifmfbgkaaCutPlain
import Derived.Deep.DeepCutAuto
import Derived.Deep.CutBlock
namespace Go.Proofs.Ytdajeoifmfbgkaa
open Go.RowKit

theorem info_bytes : (Try.prog.info? 22).map (fun i => (i.zero, i.size, i.bytes)) = some (some (.slice none 0 0), 1, 24) := by kernel_rfl

def lenV : Value → Nat | .slice _ n _ => n | _ => 0

def CutRel (w : World) (bs : List UInt8) (b o : Value) (wr : World) : Prop :=
  ∃ (A : Option Addr) (n c : Nat) (r : List UInt8) (f : Nat) (dn : List (List UInt8)) (ps : List Value),
    b = .slice A n c ∧ n ≤ c ∧ Rd wr w.heap.size 1 A n (bvs r) ∧ r.length ≤ f ∧ dn ++ cutsF f r = cutsF bs.length bs ∧
    wr.ownsRow w.heap.size 22 1 o ps.length ps ∧ OwnAll wr w.heap.size 5 ps (dn.map bvs) ∧ Below w.heap.size w wr ∧ ps.length + n ≤ bs.length

set_option maxRecDepth 100000 in
set_option maxHeartbeats 400000 in
theorem cut_walk (A : Option Addr) (n c : Nat) (bs : List UInt8) (w : World) (hr : Rd w w.heap.size 1 A n (bvs bs)) (hn : n ≤ 1048576) (hc : n ≤ c) :
    Calls Try.prog 15 #[.slice A n c] w fun e w' => ∃ v ps, e = .returned v ∧ w'.ownsRow w.heap.size 22 1 v ps.length ps ∧ OwnAll w' w.heap.size 5 ps ((cutsF bs.length bs).map bvs) ∧ Below w.heap.size w w' := by
  obtain ⟨i0, hi, hz0, hz1, hz2⟩ := info_parts info_bytes
  have hlen : bs.length = n := by simpa [bvs] using hr.1
  have HL := Lib.hid hlen; clear hlen
  go_enter Try.func15, Try.ntmps15
  go_wp2
  go_loopw [0, 3] (fun b o wr => CutRel w bs b o wr) (fun b _ _ => lenV b)
  case atStart => exact ⟨A, n, c, bs, bs.length, [], [], rfl, hc, hr, Nat.le_refl _, by simp, World.ownsRow_nil _ _ _ _, trivial, Below.refl _ _, by simp [HL.out]⟩
  case round =>
    obtain ⟨A1, n1, c1, r, f, dn, ps, rfl, hc1, hr1, hf, hcut, hown, hall, hbl, hps⟩ := hrel
    have HC := Lib.hid hcut; clear hcut
    have hl1 : r.length = n1 := by simpa [bvs] using hr1.1
    by_cases h0 : 0 < n1
    · have HR := Lib.hid hl1; clear hl1
      go_upto_block 2 with fail
      go_cut [4] (fun t wx => wx = wr ∧ t = .int .i64 (cl 32 r))
      case first =>
        go_wp2_with fail
        go_loop [4] (fun t => ∃ k : Nat, k ≤ n1 ∧ k ≤ 32 ∧ Hid (cl 32 r = k + cl (32 - k) (r.drop k)) ∧ t = .int .i64 k) (fun t => 32 - (intOf t).toNat)
        case atStart => exact ⟨0, Nat.zero_le _, Nat.zero_le _, by simp [Hid], rfl⟩
        case round =>
          obtain ⟨k, hk1, hk2, HK, rfl⟩ := hrel
          by_cases hlt1 : k < n1
          · by_cases hlt2 : k < 32
            · obtain ⟨ad, rfl, hadb, hcell⟩ := hr1.get hlt1
              have hkr : k < r.length := by have := HR.out; omega
              rw [bvs_get] at hcell
              by_cases h10 : r[k] = 10
              · have hcell10 : wr.cell? (ad.add k) = some (.int .u8 10) := by rw [hcell, h10]; rfl
                have HK' := Lib.hid (cl_hit hkr hlt2 HK.out h10)
                clear hcell
                go_wp2_with fail
                go_meet
                exact ⟨rfl, by rw [HK'.out]; rfl⟩
              · have hne : ((r[k].toNat : Int) == 10) = false := by
                  simp only [beq_eq_false_iff_ne]; intro e; apply h10
                  apply UInt8.toNat_inj.1; simp; omega
                have HK' := Lib.hid (cl_miss hkr hlt2 HK.out h10)
                go_wp2_with fail
                go_round
                case rel => exact ⟨k + 1, by omega, by omega, HK'.out, by go_num⟩
                case measure => simp [intOf]; omega
            · go_wp2_with fail
              go_meet
              exact ⟨rfl, by rw [cl_end (by omega) HK.out]⟩
          · go_wp2_with fail
            go_meet
            exact ⟨rfl, by rw [cl_end (by have := HR.out; omega) HK.out]⟩
      case rest =>
        obtain ⟨rfl, rfl⟩ := hcut
        have hm1 := (cl_le 32 r).2
        have hm0 : 0 < cl 32 r := cl_pos (by omega) (by rw [HR.out]; exact h0)
        rw [HR.out] at hm1
        have HS := Lib.hid (cutsF_step (l := r) (f := f) (by rw [HR.out]; exact h0) hf)
        generalize cl 32 r = m at *
        have hrt : Rd wc wc.heap.size 1 A1 m (bvs (r.take m)) := by
          have := (hr1.take hm1).up hbl.size
          rwa [Nat.mul_one, bvs_take] at this
        have hrd : Rd wc w.heap.size 1 (if c1 = m then A1 else A1.map (·.add m)) (n1 - m) (bvs (r.drop m)) := by
          have := hr1.drop (cap := c1) hm1 hc1
          rwa [Nat.mul_one, bvs_drop] at this
        have hmc : m ≤ c1 := by omega
        go_wp2_with fail
        (with_reducible refine (clone_bytes A1 m c1 (r.take m) _ hrt ?_).mono ?_)
        · have := HL.out; omega
        rintro e w1 ⟨v1, rfl, hv1, hb1⟩
        obtain ⟨A2, c2, rfl, -, -⟩ := own_shape hv1
        have hlt : (r.take m).length = m := by rw [List.length_take, HR.out]; omega
        have hb2 := hb1.alloc hb1.size (.cells #[.slice A2 m c2] 22)
        have hown2 := own_below hown hb2 (Nat.le_refl _)
        have hall2 : OwnAll (w1.alloc (.cells #[.slice A2 m c2] 22)) w.heap.size 5 (ps ++ [.slice A2 m c2]) ((dn ++ [r.take m]).map bvs) := by
          rw [List.map_append]
          refine OwnAll.snoc (hall.map fun p x hx => own_below hx hb2 (Nat.le_refl _)) ?_
          have := (own_base hv1 hbl.size).alloc (.cells #[.slice A2 m c2] 22)
          rw [bvs_len, hlt]; exact this
        have hbl2 := hbl.trans (hb2.mono hbl.size)
        have hcut2 : (dn ++ [r.take m]) ++ cutsF (f - 1) (r.drop m) = cutsF bs.length bs := by rw [← HC.out, HS.out]; simp
        have HC2 := Lib.hid hcut2
        clear hcut2 HC HS hall hown hv1 hlt
        have hbnd : ps.length + 1 ≤ 1048576 := by have := HL.out; omega
        have hrd2 := hrd.below (hb2.mono hbl.size)
        have hone : ∀ u ∈ [Value.slice A2 m c2], u.oneCell' = true := by intro u hu; rw [List.mem_singleton.1 hu]; rfl
        have hsrc := Rd.box w1 22 (.slice A2 m c2)
        go_wp2_with (at_builtin; refine wpList_append_rd rfl (.tmp 24) (.tmp 29) _ rfl w.heap.size 22 i0 _ 1 24 Try.underlying23 hi hz0 hz1 hz2 rfl (by omega) _ ps.length ps rfl hown2 (w1.heap.size + 1) (some ⟨w1.heap.size, 0, none⟩) 1 1 [.slice A2 m c2] rfl hsrc hone (by simp only [maxLen]; omega) (by omega) hbl2.size ?_; intro v3 w3 hown3 hg3)
        have hb3 : Below w.heap.size (w1.alloc (.cells #[.slice A2 m c2] 22)) w3 := below_own (Below.refl _ _) hown2 hg3 (Nat.le_refl _) hbl2.size
        refine ⟨⟨_, _, _, r.drop m, f - 1, dn ++ [r.take m], ps ++ [.slice A2 m c2], rfl, by omega, hrd2.below hb3, ?_, HC2.out, ?_, ?_, hbl2.trans hb3, ?_⟩, ?_⟩
        · have := HR.out; rw [List.length_drop]; omega
        · simpa using hown3
        · exact hall2.map fun p x hx => hx.kept hg3 (own_ne hx hown2 (by decide))
        · simp only [List.length_append, List.length_singleton]; omega
        · simp only [lenV]; omega
    · go_wp2
      go_ret
      obtain rfl : r = [] := List.eq_nil_of_length_eq_zero (by omega)
      refine ⟨_, ps, rfl, hown, ?_, hbl⟩
      have := HC.out
      rw [cutsF_nil, List.append_nil] at this
      rw [← this]; exact hall

end Go.Proofs.Ytdajeoifmfbgkaa
