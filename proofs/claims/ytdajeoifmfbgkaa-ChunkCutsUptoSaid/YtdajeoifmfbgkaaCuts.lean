/-
  The walk of roadref5.Cuts.
-/
import Derived.Test.YtdajeoifmfbgkaaClone
import Derived.Test.YtdajeoifmfbgkaaCutPlain
import Derived.Deep.DeepCutAuto
import Derived.Deep.CutBlock
namespace Go.Proofs.Ytdajeoifmfbgkaa
open Go.RowKit

theorem info_str : (Try.prog.info? 9).map (fun i => (i.zero, i.size, i.bytes)) = some (some (.string ⟨#[]⟩), 1, 16) := by kernel_rfl


def CutsRel (w : World) (bs : List UInt8) (o now i : Value) (wr : World) : Prop :=
  ∃ (k : Nat) (cur : List UInt8) (dn : List (List UInt8)) (f : Nat), k ≤ bs.length ∧ i = .int .i64 k ∧ now = .string ⟨cur.toArray⟩ ∧ cur.length ≤ 31 ∧ (∀ x ∈ cur, x ≠ 10) ∧
    wr.ownsRow w.heap.size 9 1 o dn.length (svs dn) ∧ Below w.heap.size w wr ∧ dn.length ≤ k ∧ dn ++ cutsF f (cur ++ bs.drop k) = cutsF bs.length bs ∧ (cur ++ bs.drop k).length ≤ f

set_option maxRecDepth 100000 in
set_option maxHeartbeats 400000 in
theorem cuts_walk (A : Option Addr) (n c : Nat) (bs : List UInt8) (w : World) (hr : Rd w w.heap.size 1 A n (bvs bs)) (hn : n ≤ 1048576) :
    Calls Try.prog 21 #[.slice A n c] w fun e w' => ∃ v, e = .returned v ∧ w'.ownsRow w.heap.size 9 1 v (cutsF bs.length bs).length (svs (cutsF bs.length bs)) ∧ Below w.heap.size w w' := by
  obtain ⟨i0, hi, hz0, hz1, hz2⟩ := info_parts info_str
  have hlen : bs.length = n := by simpa [bvs] using hr.1
  have HL := Lib.hid hlen; clear hlen
  go_enter Try.func21, Try.ntmps21
  go_wp2
  go_loopw [3, 4, 9] (fun o now i wr => CutsRel w bs o now i wr) (fun _ _ i _ => n - (intOf i).toNat)
  case atStart => exact ⟨0, [], [], bs.length, Nat.zero_le _, rfl, rfl, by simp, by simp, World.ownsRow_nil _ _ _ _, Below.refl _ _, Nat.le_refl _, by simp, by simp⟩
  case round =>
    obtain ⟨k, cur, dn, f, hk, rfl, rfl, hcur, hclean, hown, hbl, hdk, hcut, hf⟩ := hrel
    have HF := Lib.hid hf; have HC := Lib.hid hcut; have HCl := Lib.hid hclean
    clear hcut hf hclean
    have hr1 := hr.below hbl
    by_cases hlt : k < n
    · obtain ⟨ad, rfl, hadb, hcell⟩ := hr1.get hlt
      have hkr : k < bs.length := by have := HL.out; omega
      rw [bvs_get] at hcell
      have HD := Lib.hid (List.drop_eq_getElem_cons hkr)
      generalize bs[k] = x at *
      have hsrc := Rd.box wr 5 (.int .u8 (x.toNat : Int))
      have hcv := run_string_rd (P := Try.prog) 22 9 5 Try.underlying22 Try.underlying5 Try.underlying9 (xs := [x]) 1 hsrc
      have hal := hown.alloc (.cells #[.int .u8 (x.toNat : Int)] 5)
      have hbal := hbl.alloc hbl.size (.cells #[.int .u8 (x.toNat : Int)] 5)
      by_cases hfull : x = 10 ∨ cur.length = 31
      · have hx : ((x.toNat : Int) == 10) = true ∨ (((x.toNat : Int) == 10) = false ∧ cur.length = 31) := by
          by_cases h10 : x = 10
          · exact .inl (byte_beq (n := 10) (by omega) h10)
          · exact .inr ⟨byte_bne (n := 10) (by omega) h10, hfull.resolve_left h10⟩
        have hal2 := hal.alloc (.cells #[.string ({ data := cur.toArray } ++ { data := #[x] })] 9)
        have hbal2 := hbal.alloc hbal.size (.cells #[.string ({ data := cur.toArray } ++ { data := #[x] })] 9)
        have hsrc2 := Rd.boxAt (wr.alloc (.cells #[.int .u8 (x.toNat : Int)] 5)) 9 (.string ({ data := cur.toArray } ++ { data := #[x] })) (wr.heap.size + 1) (by simp)
        have hone : ∀ u ∈ [Value.string ({ data := cur.toArray } ++ { data := #[x] })], u.oneCell' = true := by intro u hu; rw [List.mem_singleton.1 hu]; rfl
        have HN := Lib.hid (cutsF_full (rest := bs.drop (k + 1)) HCl.out hcur hfull (by rw [← HD.out]; exact HF.out))
        clear hfull
        rcases hx with hx | ⟨hx, h31⟩
        all_goals
          go_wp2_with (at_builtin; refine wpList_append_rd rfl (.tmp 25) (.tmp 27) _ rfl w.heap.size 9 i0 _ 1 16 Try.underlying30 hi hz0 hz1 hz2 rfl (by omega) _ dn.length (svs dn) rfl hal2 (wr.heap.size + 1 + 1) (some ⟨wr.heap.size + 1, 0, none⟩) 1 1 [.string ({ data := cur.toArray } ++ { data := #[x] })] rfl hsrc2 hone (by simp only [maxLen]; omega) (by omega) hbal2.size ?_; intro v3 w3 hown3 hg3)
          refine ⟨⟨k + 1, [], dn ++ [cur ++ [x]], f - 1, by omega, by go_num, rfl, by simp, by simp, ?_, below_own hbal2 hal2 hg3 (Nat.le_refl _) hbal2.size, by simp; omega, ?_, ?_⟩, by simp [intOf]; omega⟩
          · have e := cat_str cur [x]
            rw [e] at hown3
            simpa [svs, sv] using hown3
          · rw [← HC.out, HD.out, HN.out]; simp
          · have := HF.out
            rw [HD.out] at this
            simp at this ⊢; omega
      · have hx : ((x.toNat : Int) == 10) = false := byte_bne (n := 10) (by omega) (fun h => hfull (.inl h))
        have h31 : cur.length < 31 := by omega
        have h10 : x ≠ 10 := fun h => hfull (.inl h)
        have HX := Lib.hid h10
        clear hfull h10
        go_wp2_with fail
        refine ⟨⟨k + 1, cur ++ [x], dn, f, by omega, by go_num, ?_, by simp; omega, ?_, hal, hbal, by omega, ?_, ?_⟩, by simp [intOf]; omega⟩
        · rw [← cat_str]
        · intro y hy
          rcases List.mem_append.1 hy with h | h
          · exact HCl.out y h
          · rw [List.mem_singleton.1 h]; exact HX.out
        · rw [← HC.out, HD.out]; simp
        · have := HF.out
          rw [HD.out] at this
          simp at this ⊢; omega
    · have hkn : k = bs.length := by have := HL.out; omega
      have hdr : bs.drop k = [] := List.drop_eq_nil_of_le (by omega)
      have HC' := HC.out
      have HF' := HF.out
      rw [hdr, List.append_nil] at HC' HF'
      have HC2 := Lib.hid HC'
      clear HC HF hkn hdr HC'
      by_cases h0 : cur = []
      · subst h0
        go_wp2_with fail
        go_ret
        refine ⟨_, rfl, ?_, hbl⟩
        rw [← HC2.out, cutsF_nil, List.append_nil]; exact hown
      · have hemp : (!cur.isEmpty) = true := by cases cur <;> simp_all
        have hal2 := hown.alloc (.cells #[.string ⟨cur.toArray⟩] 9)
        have hbal2 := hbl.alloc hbl.size (.cells #[.string ⟨cur.toArray⟩] 9)
        have hsrc2 := Rd.box wr 9 (.string ⟨cur.toArray⟩)
        have hone : ∀ u ∈ [Value.string ⟨cur.toArray⟩], u.oneCell' = true := by intro u hu; rw [List.mem_singleton.1 hu]; rfl
        have HN := Lib.hid (cutsF_last HCl.out hcur h0 HF')
        have hbs : bs.length ≤ 1048576 := by have := HL.out; omega
        clear HF' h0
        go_wp2_with (at_builtin; refine wpList_append_rd rfl (.tmp 32) (.tmp 34) _ rfl w.heap.size 9 i0 _ 1 16 Try.underlying30 hi hz0 hz1 hz2 rfl (by omega) _ dn.length (svs dn) rfl hal2 (wr.heap.size + 1) (some ⟨wr.heap.size, 0, none⟩) 1 1 [.string ⟨cur.toArray⟩] rfl hsrc2 hone (by simp only [maxLen]; omega) (by omega) hbal2.size ?_; intro v3 w3 hown3 hg3)
        go_ret
        refine ⟨_, rfl, ?_, below_own hbal2 hal2 hg3 (Nat.le_refl _) hbal2.size⟩
        rw [← HC2.out, HN.out]
        simpa [svs, sv] using hown3

end Go.Proofs.Ytdajeoifmfbgkaa
