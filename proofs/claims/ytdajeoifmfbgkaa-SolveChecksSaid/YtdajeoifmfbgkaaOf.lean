/-
  The walks of slices.Clone at api.Use, solve.Of and slices.Equal at api.Use (where both sides read alike).
-/
import Derived.Test.YtdajeoifmfbgkaaUse
import Derived.Test.YtdajeoifmfbgkaaProg
import Derived.Deep.RegionWith
import Derived.Deep.QuietTactic
import Derived.BigQuiet
import Derived.Deep.DeepCutAuto
namespace Go.Proofs.Ytdajeoifmfbgkaa
open Go.RowKit

theorem info_use : (Try.prog.info? 107).map (fun i => (i.zero, i.size, i.bytes)) = some (some (.agg #[.string ⟨#[]⟩, .int .i64 0, .int .i64 0]), 3, 32) := by kernel_rfl

def ClonePost (w : World) (n : Nat) (xs : List Value) (e : Ending) (w' : World) : Prop := ∃ A c, e = .returned (.slice A n c) ∧ n ≤ c ∧ Rs w' (fun b => w.heap.size ≤ b) 3 A n xs ∧ Below w.heap.size w w'

set_option maxRecDepth 100000 in
set_option maxHeartbeats 400000 in
theorem clone_uses (A : Option Addr) (n c : Nat) (xs : List Value) (w : World) (hr : Rd w w.heap.size 3 A n xs) (h1 : ∀ u ∈ xs, u.oneCell' = true) (hn : n ≤ 4398046511104) :
    Calls Try.prog 103 #[.slice A n c] w (ClonePost w n xs) := by
  obtain ⟨i0, hi, hz0, hz1, hz2⟩ := info_parts info_use
  have heq := fun W => Lib.run_eql_slice_nil (P := Try.prog) W 73 107 A n c 0 0 Try.underlying73
  rcases A with _ | ad
  · obtain rfl : n = 0 := by
      rcases Nat.eq_zero_or_pos n with h0 | h0
      · exact h0
      · obtain ⟨ad, h, _⟩ := hr.2 h0
        cases h
    obtain rfl : xs = [] := List.eq_nil_of_length_eq_zero (by simpa using hr.1)
    go_enter Try.func103, Try.ntmps103
    go_wp2
    go_ret
    exact ⟨none, 0, rfl, Nat.le_refl _, ⟨rfl, fun h => absurd h (by omega)⟩, Below.refl _ _⟩
  · have hB := (Below.refl w.heap.size w).alloc (Nat.le_refl _) (.cells #[] 107)
    have hr1 := hr.below hB
    have hown : (w.alloc (.cells #[] 107)).ownsRow w.heap.size 107 3 (.slice (some ⟨w.heap.size, 0, none⟩) 0 0) 0 [] := World.ownsRow_made w #[] 0 (Nat.le_refl _) (by decide) rfl
    go_enter Try.func103, Try.ntmps103
    go_wp2_with (at_builtin; refine wpList_append_rd rfl (.tmp 5) (.tmp 6) _ rfl w.heap.size 107 i0 _ 3 32 Try.underlying73 hi hz0 hz1 hz2 rfl (by omega) _ 0 [] rfl hown w.heap.size (some ad) n c xs rfl hr1 h1 (by simp only [maxLen]; omega) (by omega) hB.size ?_; intro v1 w1 hown1 hg1; simp only [Nat.zero_add, List.nil_append] at hown1; obtain ⟨A1, c1, rfl, hc1, -⟩ := own_shape hown1)
    go_ret
    exact ⟨A1, c1, rfl, hc1, Rs.of_own hown1, below_own hB hown hg1 (Nat.le_refl _) hB.size⟩

def OfPost (w : World) (nm : List UInt8) (ver : Int) (n : Nat) (xs : List Value) (e : Ending) (w' : World) : Prop :=
  ∃ A c, e = .returned (.agg #[.string ⟨nm.toArray⟩, .int .i64 ver, .slice A n c]) ∧ n ≤ c ∧ Rs w' (fun b => w.heap.size ≤ b) 3 A n xs ∧ Below w.heap.size w w'

set_option maxRecDepth 100000 in
set_option maxHeartbeats 1000000 in
theorem of_walk (nm : List UInt8) (ver : Int) (A : Option Addr) (n c : Nat) (xs : List Value) (y3 y4 y5 y6 y7 : Value) (w : World) (hr : Rd w w.heap.size 3 A n xs) (h1 : ∀ u ∈ xs, u.oneCell' = true) (hn : n ≤ 4398046511104) :
    Calls Try.prog 46 #[.agg #[.string ⟨nm.toArray⟩, .int .i64 ver, .slice A n c, y3, y4, y5, y6, y7]] w (OfPost w nm ver n xs) := by
  go_enter Try.func46, Try.ntmps46
  go_wp2_with fail
  have hbW : Below w.heap.size w ((w.alloc (.cells #[.string ⟨nm.toArray⟩, .int .i64 ver, .slice A n c, y3, y4, y5, y6, y7] 80)).alloc (.cells #[.string ⟨#[]⟩, .int .i64 0, .slice none 0 0] 100)) :=
    ((Below.refl _ _).alloc (Nat.le_refl _) _).alloc (by simp) _
  have hsz : ((w.alloc (.cells #[.string ⟨nm.toArray⟩, .int .i64 ver, .slice A n c, y3, y4, y5, y6, y7] 80)).alloc (.cells #[.string ⟨#[]⟩, .int .i64 0, .slice none 0 0] 100)).heap.size = w.heap.size + 2 := by simp
  have hh0 := heap_alloc_new (w.alloc (.cells #[.string ⟨nm.toArray⟩, .int .i64 ver, .slice A n c, y3, y4, y5, y6, y7] 80)) (.cells #[.string ⟨#[]⟩, .int .i64 0, .slice none 0 0] 100)
  have hh1 := (Below.heap_alloc (w.alloc (.cells #[.string ⟨nm.toArray⟩, .int .i64 ver, .slice A n c, y3, y4, y5, y6, y7] 80)) (.cells #[.string ⟨#[]⟩, .int .i64 0, .slice none 0 0] 100) w.heap.size (by simp)).trans (heap_alloc_new w _)
  rw [show (w.alloc (.cells #[.string ⟨nm.toArray⟩, .int .i64 ver, .slice A n c, y3, y4, y5, y6, y7] 80)).heap.size = w.heap.size + 1 by simp] at hh0
  generalize ((w.alloc (.cells #[.string ⟨nm.toArray⟩, .int .i64 ver, .slice A n c, y3, y4, y5, y6, y7] 80)).alloc (.cells #[.string ⟨#[]⟩, .int .i64 0, .slice none 0 0] 100)) = W at *
  have c0 : W.cell? ⟨w.heap.size, 0, none⟩ = some (.string ⟨nm.toArray⟩) := cell_of_row W _ 0 _ _ _ hh1
  have c1 : W.cell? ⟨w.heap.size, 1, none⟩ = some (.int .i64 ver) := cell_of_row W _ 1 _ _ _ hh1
  have c2 : W.cell? ⟨w.heap.size, 2, none⟩ = some (.slice A n c) := cell_of_row W _ 2 _ _ _ hh1
  have hrW : Rd W.drew W.drew.heap.size 3 A n xs := (hr.below hbW).up hbW.size
  have HS := Lib.hid hsz; have H0 := Lib.hid hh0; have H1 := Lib.hid hh1
  clear hsz hh0 hh1
  have keep : ∀ w1, Below W.drew.heap.size W.drew w1 → w1.cell? ⟨w.heap.size, 0, none⟩ = some (.string ⟨nm.toArray⟩) ∧ w1.cell? ⟨w.heap.size, 1, none⟩ = some (.int .i64 ver) ∧
      w1.cell? ⟨w.heap.size + 1, 0, none⟩ = some (.string ⟨#[]⟩) ∧ w1.cell? ⟨w.heap.size + 1, 1, none⟩ = some (.int .i64 0) ∧ w1.cell? ⟨w.heap.size + 1, 2, none⟩ = some (.slice none 0 0) ∧
      w1.frozen? ⟨w.heap.size + 1, 0, none⟩ = false ∧ w1.frozen? ⟨w.heap.size + 1, 1, none⟩ = false ∧ w1.frozen? ⟨w.heap.size + 1, 2, none⟩ = false := by
    intro w1 hb
    have hs : W.drew.heap.size = w.heap.size + 2 := HS.out
    have e0 : w1.heap[w.heap.size + 1]? = _ := (hb.block (w.heap.size + 1) (by omega)).trans H0.out
    have e1 : w1.heap[w.heap.size]? = _ := (hb.block w.heap.size (by omega)).trans H1.out
    refine ⟨cell_of_row w1 _ 0 _ _ _ e1, cell_of_row w1 _ 1 _ _ _ e1, cell_of_row w1 _ 0 _ _ _ e0, cell_of_row w1 _ 1 _ _ _ e0, cell_of_row w1 _ 2 _ _ _ e0, ?_, ?_, ?_⟩ <;> simp [World.frozen?, e0]
  have HK := Lib.hid keep
  clear keep
  go_region_with (go_at_call 103; refine (clone_uses A n c xs _ hrW h1 hn).mono ?_; rintro e w1 ⟨A1, c1', rfl, hc1, hr1, hb1⟩; obtain ⟨k0, k1, k2, k3, k4, k5, k6, k7⟩ := HK.out w1 hb1)
  all_goals
    go_wp2_with fail
    have hs : W.drew.heap.size = w.heap.size + 2 := HS.out
    refine bodyPost_ret (v := .agg #[.string ⟨nm.toArray⟩, .int .i64 ver, .slice A1 n c1']) ?_ rfl ⟨A1, c1', rfl, hc1, ?_, ?_⟩
    · simp [results, Try.results46, go_sem, k2, k3, k4]
    · refine hr1.keep (fun p hp => ?_) fun b hb => ?_
      · have hne : ∀ i, p ≠ ⟨w.heap.size + 1, i, none⟩ := by intro i e; subst e; simp only at hp; omega
        rw [World.cell?_setCell_other _ _ _ _ (fun e => hne 2 e.symm), World.cell?_setCell_other _ _ _ _ (fun e => hne 1 e.symm), World.cell?_setCell_other _ _ _ _ (fun e => hne 0 e.symm)]
      · omega
    · exact (((hbW.drew.trans (hb1.mono (by omega))).setCell (by simp) _).setCell (by simp) _).setCell (by simp) _

end Go.Proofs.Ytdajeoifmfbgkaa
