/-
  strings.Join on trees.
-/
import Derived.Test.YtdajeoifmfbgkaaTjoin
import Derived.Test.YtdajeoifmfbgkaaAb15
import Derived.Test.YtdajeoifmfbgkaaTab
namespace Go.Proofs.Ytdajeoifmfbgkaa
open Go.RowKit

def joinS (l : List ByteArray) (sep : ByteArray) : ByteArray := ⟨(Lib.join (l.map (·.data.toList)) sep.data.toList).toArray⟩
theorem join_af (l : List ByteArray) (sep : ByteArray) (hN : l.length ≤ 140737488355328) (hlen : (Lib.join (l.map (·.data.toList)) sep.data.toList).length ≤ 140737488355328) :
    AF Try.prog 107 [strRow l, .lit (.string sep)] (· = .lit (.string (joinS l sep))) := by
  refine ⟨⟨_, Try.func107, by kernel_rfl, by kernel_rfl⟩, fun M w vs hM hvs => ?_⟩
  simp only [RTs, strRow, RT] at hvs
  obtain ⟨x, r, rfl, ⟨A, c, xs, rfl, hc, hm, _, hxl, hat, hxs⟩, y, r', rfl, rfl, rfl⟩ := hvs
  cases l with
  | nil =>
    refine (join_none_calls A c sep w).mono fun e w' ⟨he, hw⟩ => ?_
    subst he; subst hw
    exact ⟨_, _, M, rfl, rfl, Ext.refl _ _, hM, by simp only [RT]; rfl, Below.refl _ _⟩
  | cons s l =>
    obtain ⟨ad, rfl, hA⟩ := hat (by simp)
    have hcell : ∀ (j : Nat) (x : ByteArray), (s :: l)[j]? = some x → w.cell? (ad.add j) = some (.string x) := by
      intro j x hj
      obtain ⟨u, hu, hr⟩ := hxs.get (str_at hj)
      simp only [RT] at hr
      subst hr
      exact (hM _ _ (hA j _ hu)).1
    have h0 := hcell 0 s rfl
    have hsp : ad.spot = none := by
      unfold World.cell? at h0
      split at h0
      · split at h0
        · cases h0
        · rename_i hns
          cases hs : ad.spot with
          | none => rfl
          | some z => exact absurd (by simp [Addr.add, hs]) hns
      · cases h0
    obtain ⟨bk, o, sp⟩ := ad
    simp only at hsp
    subst hsp
    have hbk : bk < w.heap.size := by
      unfold World.cell? at h0
      split at h0
      · rename_i hb
        exact (Array.getElem?_eq_some_iff.1 hb).1
      · cases h0
    refine (join_calls bk o c (s :: l) sep w (fun j x hj => by have := hcell j x hj; rw [box_add] at this; exact this) hbk hN hc hlen).mono fun e w' ⟨he, hb⟩ => ?_
    subst he
    exact ⟨_, _, M, rfl, rfl, Ext.refl _ _, hM.below hb, by simp only [RT]; rfl, hb⟩

end Go.Proofs.Ytdajeoifmfbgkaa
