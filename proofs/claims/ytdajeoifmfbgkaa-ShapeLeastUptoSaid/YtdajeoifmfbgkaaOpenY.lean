/-
  Arguments opened as trees: api.Type.
-/
import Derived.Test.YtdajeoifmfbgkaaOpenT
import Derived.Test.YtdajeoifmfbgkaaTy
namespace Go.Proofs.Ytdajeoifmfbgkaa
open Go.ChangeShapes Go.WideShapes Go.ChangeAt Go.RowKit Go.Deep

theorem listN1 {α : Type} {l : List α} (h : l.length = 1) : ∃ a, l = [a] := match l, h with | [a], _ => ⟨a, rfl⟩
theorem listN2 {α : Type} {l : List α} (h : l.length = 2) : ∃ a b, l = [a, b] := match l, h with | [a, b], _ => ⟨a, b, rfl⟩
theorem listN3 {α : Type} {l : List α} (h : l.length = 3) : ∃ a b c, l = [a, b, c] := match l, h with | [a, b, c], _ => ⟨a, b, c, rfl⟩
theorem listN4 {α : Type} {l : List α} (h : l.length = 4) : ∃ a b c d, l = [a, b, c, d] := match l, h with | [a, b, c, d], _ => ⟨a, b, c, d, rfl⟩
theorem listN5 {α : Type} {l : List α} (h : l.length = 5) : ∃ a b c d e, l = [a, b, c, d, e] := match l, h with | [a, b, c, d, e], _ => ⟨a, b, c, d, e, rfl⟩
theorem listN6 {α : Type} {l : List α} (h : l.length = 6) : ∃ a b c d e f, l = [a, b, c, d, e, f] := match l, h with | [a, b, c, d, e, f], _ => ⟨a, b, c, d, e, f, rfl⟩
theorem listN7 {α : Type} {l : List α} (h : l.length = 7) : ∃ a b c d e f g, l = [a, b, c, d, e, f, g] := match l, h with | [a, b, c, d, e, f, g], _ => ⟨a, b, c, d, e, f, g, rfl⟩
theorem listN8 {α : Type} {l : List α} (h : l.length = 8) : ∃ a b c d e f g i, l = [a, b, c, d, e, f, g, i] := match l, h with | [a, b, c, d, e, f, g, i], _ => ⟨a, b, c, d, e, f, g, i, rfl⟩
theorem rts_seg {M : Mm} {ts us : List T} {cs : List Value} {o c : Nat} (h : RTs M ts ((cs.drop o).take c)) (h' : RTs M us (cs.drop (o + c))) : RTs M (ts ++ us) (cs.drop o) := by
  have := h.app h'
  rwa [← List.drop_drop, List.take_append_drop] at this
theorem rts_end {M : Mm} {cs : List Value} {o : Nat} (h : cs.length = o) : RTs M [] (cs.drop o) := by rw [← h, List.drop_length]; simp [RTs]
theorem one_seg {cs : List Value} {o c : Nat} (h : OneAll ((cs.drop o).take c)) (h' : OneAll (cs.drop (o + c))) : OneAll (cs.drop o) := by
  have := h.app h'
  rwa [← List.drop_drop, List.take_append_drop] at this
theorem one_end {cs : List Value} {o : Nat} (h : cs.length = o) : OneAll (cs.drop o) := by rw [← h, List.drop_length]; intro x hx; simp at hx
theorem sum_ones {α : Type} : ∀ l : List α, (l.map fun _ => 1).sum = l.length
  | [] => rfl
  | _ :: l => by simp only [List.map_cons, List.sum_cons, sum_ones l, List.length_cons]; omega

section
variable {H : Type} {enc : TypeId × Value → H} {P : Program} {w : World} {base : Nat} {spare : Nat → Bool} {held : Bool}
theorem opens_strz {t : TypeId} {fuel : Nat} (ht : P.underlying t = some .string) : Opens enc P w base spare held t (fun s : ByteArray => [.lit (.string s)]) (fun s => s.size + 1) fuel := by
  intro cs x h
  obtain ⟨i, rfl, rfl, _⟩ := DataW.trod_string ht h
  exact ⟨i, by simp [RTs, RT], fun u hu => by simp at hu; subst hu; rfl, by simp [Rows.uptoBulk]⟩
theorem cn_int : Try.prog.cellsOf 3 = 1 := by kernel_rfl
theorem cn_str : Try.prog.cellsOf 9 = 1 := by kernel_rfl
theorem cn_Y : Try.prog.cellsOf 83 = 3 := by kernel_rfl
theorem opensY : ∀ fuel, Opens enc Try.prog w base spare held 83 Y.ts Y.size fuel := by
  intro fuel
  induction fuel using Nat.strongRecOn with
  | _ fuel ih =>
    intro cs x h
    obtain ⟨ys, n, hn, rfl, hlen, hyl, hf⟩ := DataW.trod_struct Try.underlying83 h
    rw [cn_Y] at hlen
    obtain ⟨y0, y1, y2, rfl⟩ := listN3 hyl
    have f0 : DataW.trod enc Try.prog w base spare held n 3 ((cs.drop 0).take (Try.prog.cellsOf 3)) = some y0 := hf 0 _ rfl
    have f1 : DataW.trod enc Try.prog w base spare held n 9 ((cs.drop 1).take (Try.prog.cellsOf 9)) = some y1 := hf 1 _ rfl
    have f2 : DataW.trod enc Try.prog w base spare held n 81 ((cs.drop 2).take (Try.prog.cellsOf 81)) = some y2 := hf 2 _ rfl
    rw [cn_int] at f0
    rw [cn_str] at f1
    rw [show Try.prog.cellsOf 81 = 1 by kernel_rfl] at f2
    obtain ⟨a0, r0, o0, -⟩ := opens_int Try.underlying3 _ _ f0
    obtain ⟨a1, r1, o1, m1⟩ := opens_strz Try.underlying9 _ _ f1
    obtain ⟨a2, r2, o2, m2⟩ := opens_slice Y.ts Y.size 3 (by omega) Y.ts_len Try.underlying81 cn_Y (fun m hm => ih m (by omega)) _ _ f2
    refine ⟨.mk a0 a1 a2, ?_, ?_, ?_⟩
    · have := rts_seg r0 (rts_seg r1 (rts_seg r2 (rts_end hlen)))
      simpa [Y.ts, Y.all_eq] using this
    · have := one_seg o0 (one_seg o1 (one_seg o2 (one_end hlen)))
      simpa using this
    · simp only [Y.size, Y.sizes_sum, List.map_cons, List.map_nil, Rows.uptoBulk, Rows.uptoBulkAll] at m1 m2 ⊢
      omega
end

end Go.Proofs.Ytdajeoifmfbgkaa
