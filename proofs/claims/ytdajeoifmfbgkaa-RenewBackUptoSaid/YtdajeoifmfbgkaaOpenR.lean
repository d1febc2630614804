/-
  Arguments opened as trees: api.Value, api.Saved, renew.Way and what they hold.
-/
import Derived.Test.YtdajeoifmfbgkaaOpenT
import Derived.Test.YtdajeoifmfbgkaaTsv
namespace Go.Proofs.Ytdajeoifmfbgkaa
open Go.ChangeShapes Go.WideShapes Go.ChangeAt Go.RowKit Go.Deep

theorem list1 {α : Type} {l : List α} (h : l.length = 1) : ∃ a, l = [a] := match l, h with | [a], _ => ⟨a, rfl⟩
theorem list2 {α : Type} {l : List α} (h : l.length = 2) : ∃ a b, l = [a, b] := match l, h with | [a, b], _ => ⟨a, b, rfl⟩
theorem list3' {α : Type} {l : List α} (h : l.length = 3) : ∃ a b c, l = [a, b, c] := match l, h with | [a, b, c], _ => ⟨a, b, c, rfl⟩
theorem list4 {α : Type} {l : List α} (h : l.length = 4) : ∃ a b c d, l = [a, b, c, d] := match l, h with | [a, b, c, d], _ => ⟨a, b, c, d, rfl⟩
theorem rts_seg {M : Mm} {ts us : List T} {cs : List Value} {o c : Nat} (h : RTs M ts ((cs.drop o).take c)) (h' : RTs M us (cs.drop (o + c))) : RTs M (ts ++ us) (cs.drop o) := by
  have := h.app h'
  rwa [← List.drop_drop, List.take_append_drop] at this
theorem rts_end {M : Mm} {cs : List Value} {o : Nat} (h : cs.length = o) : RTs M [] (cs.drop o) := by rw [← h, List.drop_length]; simp [RTs]
theorem one_seg {cs : List Value} {o c : Nat} (h : OneAll ((cs.drop o).take c)) (h' : OneAll (cs.drop (o + c))) : OneAll (cs.drop o) := by
  have := h.app h'
  rwa [← List.drop_drop, List.take_append_drop] at this
theorem one_end {cs : List Value} {o : Nat} (h : cs.length = o) : OneAll (cs.drop o) := by rw [← h, List.drop_length]; intro x hx; simp at hx

section
variable {H : Type} {enc : TypeId × Value → H} {w : World} {base : Nat} {spare : Nat → Bool} {held : Bool}
theorem cn_int : Try.prog.cellsOf 3 = 1 := by kernel_rfl
theorem cn_str : Try.prog.cellsOf 9 = 1 := by kernel_rfl
theorem cn_val : Try.prog.cellsOf 85 = 4 := by kernel_rfl
theorem cn_vals : Try.prog.cellsOf 37 = 1 := by kernel_rfl
theorem cn_inp : Try.prog.cellsOf 173 = 5 := by kernel_rfl
theorem cn_inps : Try.prog.cellsOf 38 = 1 := by kernel_rfl
theorem cn_fld : Try.prog.cellsOf 171 = 5 := by kernel_rfl
theorem cn_flds : Try.prog.cellsOf 46 = 1 := by kernel_rfl
theorem cn_mov : Try.prog.cellsOf 49 = 4 := by kernel_rfl
theorem cn_movs : Try.prog.cellsOf 41 = 1 := by kernel_rfl
theorem cn_ints : Try.prog.cellsOf 47 = 1 := by kernel_rfl
theorem cn_sav : Try.prog.cellsOf 40 = 3 := by kernel_rfl
theorem cn_way : Try.prog.cellsOf 43 = 1 := by kernel_rfl
instance : Inhabited V := ⟨.mk 0 0 ⟨#[]⟩ []⟩
instance : Inhabited Inp := ⟨⟨0, default⟩⟩
instance : Inhabited Fld := ⟨⟨0, default⟩⟩
instance : Inhabited Mov := ⟨⟨⟨#[]⟩, 0, [], []⟩⟩

theorem sum_ones {α : Type} : ∀ l : List α, (l.map fun _ => 1).sum = l.length
  | [] => rfl
  | _ :: l => by simp only [List.map_cons, List.sum_cons, sum_ones l, List.length_cons]; omega
theorem V.sizes_sum : ∀ l : List V, V.sizes l = (l.map V.size).sum
  | [] => rfl
  | v :: l => by simp [V.sizes, V.sizes_sum l]
theorem opensV : ∀ fuel, Opens enc Try.prog w base spare held 85 V.ts V.size fuel := by
  intro fuel
  induction fuel using Nat.strongRecOn with
  | _ fuel ih =>
    intro cs x h
    obtain ⟨ys, n, hn, rfl, hlen, hyl, hf⟩ := DataW.trod_struct Try.underlying85 h
    rw [cn_val] at hlen
    obtain ⟨y0, y1, y2, y3, rfl⟩ := list4 hyl
    have f0 : DataW.trod enc Try.prog w base spare held n 3 ((cs.drop 0).take (Try.prog.cellsOf 3)) = some y0 := hf 0 _ rfl
    have f1 : DataW.trod enc Try.prog w base spare held n 3 ((cs.drop 1).take (Try.prog.cellsOf 3)) = some y1 := hf 1 _ rfl
    have f2 : DataW.trod enc Try.prog w base spare held n 9 ((cs.drop 2).take (Try.prog.cellsOf 9)) = some y2 := hf 2 _ rfl
    have f3 : DataW.trod enc Try.prog w base spare held n 37 ((cs.drop 3).take (Try.prog.cellsOf 37)) = some y3 := hf 3 _ rfl
    rw [cn_int] at f0 f1
    rw [cn_str] at f2
    rw [cn_vals] at f3
    obtain ⟨a0, r0, o0, -⟩ := opens_int Try.underlying3 _ _ f0
    obtain ⟨a1, r1, o1, -⟩ := opens_int Try.underlying3 _ _ f1
    obtain ⟨a2, r2, o2, -⟩ := opens_str Try.underlying9 _ _ f2
    obtain ⟨a3, r3, o3, m3⟩ := opens_slice V.ts V.size 4 (by omega) V.ts_len Try.underlying37 cn_val (fun m hm => ih m (by omega)) _ _ f3
    refine ⟨.mk a0 a1 a2 a3, ?_, ?_, ?_⟩
    · have := rts_seg r0 (rts_seg r1 (rts_seg r2 (rts_seg r3 (rts_end hlen))))
      simpa [V.ts, V.all_eq] using this
    · have := one_seg o0 (one_seg o1 (one_seg o2 (one_seg o3 (one_end hlen))))
      simpa using this
    · simp only [V.size, V.sizes_sum, List.map_cons, List.map_nil, Rows.uptoBulk, Rows.uptoBulkAll] at m3 ⊢
      omega
theorem opensVs (fuel : Nat) : Opens enc Try.prog w base spare held 37 (fun l : List V => [V.row l]) (fun l => V.sizes l + 1) fuel := by
  intro cs x h
  obtain ⟨l, h1, h2, h3⟩ := opens_slice V.ts V.size 4 (by omega) V.ts_len Try.underlying37 cn_val (fun m _ => opensV m) cs x h
  exact ⟨l, by simpa [V.row, V.all_eq] using h1, h2, by show V.sizes l + 1 ≤ _; rw [V.sizes_sum]; exact h3⟩
theorem opensInp (fuel : Nat) : Opens enc Try.prog w base spare held 173 Inp.ts (fun x => x.val.size) fuel := by
  intro cs x h
  obtain ⟨ys, n, hn, rfl, hlen, hyl, hf⟩ := DataW.trod_struct Try.underlying173 h
  rw [cn_inp] at hlen
  obtain ⟨y0, y1, rfl⟩ := list2 hyl
  have f0 : DataW.trod enc Try.prog w base spare held n 3 ((cs.drop 0).take (Try.prog.cellsOf 3)) = some y0 := hf 0 _ rfl
  have f1 : DataW.trod enc Try.prog w base spare held n 85 ((cs.drop 1).take (Try.prog.cellsOf 85)) = some y1 := hf 1 _ rfl
  rw [cn_int] at f0
  rw [cn_val] at f1
  obtain ⟨a0, r0, o0, -⟩ := opens_int Try.underlying3 _ _ f0
  obtain ⟨a1, r1, o1, m1⟩ := opensV _ _ _ f1
  refine ⟨⟨a0, a1⟩, ?_, ?_, ?_⟩
  · have := rts_seg r0 (rts_seg r1 (rts_end hlen))
    simpa [Inp.ts] using this
  · have := one_seg o0 (one_seg o1 (one_end hlen))
    simpa using this
  · simp only [List.map_cons, List.map_nil, Rows.uptoBulk, Rows.uptoBulkAll] at m1 ⊢
    omega
theorem opensFld (fuel : Nat) : Opens enc Try.prog w base spare held 171 Fld.ts (fun x => x.first.size) fuel := by
  intro cs x h
  obtain ⟨ys, n, hn, rfl, hlen, hyl, hf⟩ := DataW.trod_struct Try.underlying171 h
  rw [cn_fld] at hlen
  obtain ⟨y0, y1, rfl⟩ := list2 hyl
  have f0 : DataW.trod enc Try.prog w base spare held n 3 ((cs.drop 0).take (Try.prog.cellsOf 3)) = some y0 := hf 0 _ rfl
  have f1 : DataW.trod enc Try.prog w base spare held n 85 ((cs.drop 1).take (Try.prog.cellsOf 85)) = some y1 := hf 1 _ rfl
  rw [cn_int] at f0
  rw [cn_val] at f1
  obtain ⟨a0, r0, o0, -⟩ := opens_int Try.underlying3 _ _ f0
  obtain ⟨a1, r1, o1, m1⟩ := opensV _ _ _ f1
  refine ⟨⟨a0, a1⟩, ?_, ?_, ?_⟩
  · have := rts_seg r0 (rts_seg r1 (rts_end hlen))
    simpa [Fld.ts] using this
  · have := one_seg o0 (one_seg o1 (one_end hlen))
    simpa using this
  · simp only [List.map_cons, List.map_nil, Rows.uptoBulk, Rows.uptoBulkAll] at m1 ⊢
    omega
def Mov.bulk (m : Mov) : Nat := (m.fields.map fun f => f.first.size).sum + m.lost.length
theorem opensMov (fuel : Nat) : Opens enc Try.prog w base spare held 49 Mov.ts Mov.bulk fuel := by
  intro cs x h
  obtain ⟨ys, n, hn, rfl, hlen, hyl, hf⟩ := DataW.trod_struct Try.underlying49 h
  rw [cn_mov] at hlen
  obtain ⟨y0, y1, y2, y3, rfl⟩ := list4 hyl
  have f0 : DataW.trod enc Try.prog w base spare held n 9 ((cs.drop 0).take (Try.prog.cellsOf 9)) = some y0 := hf 0 _ rfl
  have f1 : DataW.trod enc Try.prog w base spare held n 3 ((cs.drop 1).take (Try.prog.cellsOf 3)) = some y1 := hf 1 _ rfl
  have f2 : DataW.trod enc Try.prog w base spare held n 46 ((cs.drop 2).take (Try.prog.cellsOf 46)) = some y2 := hf 2 _ rfl
  have f3 : DataW.trod enc Try.prog w base spare held n 47 ((cs.drop 3).take (Try.prog.cellsOf 47)) = some y3 := hf 3 _ rfl
  rw [cn_str] at f0
  rw [cn_int] at f1
  rw [cn_flds] at f2
  rw [cn_ints] at f3
  obtain ⟨a0, r0, o0, -⟩ := opens_str Try.underlying9 _ _ f0
  obtain ⟨a1, r1, o1, -⟩ := opens_int Try.underlying3 _ _ f1
  obtain ⟨a2, r2, o2, m2⟩ := opens_slice Fld.ts (fun x => x.first.size) 5 (by omega) Fld.ts_len Try.underlying46 cn_fld (fun m _ => opensFld m) _ _ f2
  obtain ⟨a3, r3, o3, m3⟩ := opens_slice intTs (fun _ => 1) 1 (by omega) (fun _ => rfl) Try.underlying47 cn_int (fun m _ => opens_int Try.underlying3) _ _ f3
  refine ⟨⟨a0, a1, a2, a3⟩, ?_, ?_, ?_⟩
  · have := rts_seg r0 (rts_seg r1 (rts_seg r2 (rts_seg r3 (rts_end hlen))))
    simpa [Mov.ts, fldRow, intRow] using this
  · have := one_seg o0 (one_seg o1 (one_seg o2 (one_seg o3 (one_end hlen))))
    simpa using this
  · have hs := sum_ones a3
    simp only [Mov.bulk, List.map_cons, List.map_nil, Rows.uptoBulk, Rows.uptoBulkAll] at m2 m3 ⊢
    omega
def waySize (l : List Mov) : Nat := (l.map Mov.bulk).sum + l.length
theorem opensWay (fuel : Nat) : Opens enc Try.prog w base spare held 43 (fun l : List Mov => [movRow l]) (fun l => (l.map Mov.bulk).sum) fuel := by
  intro cs x h
  obtain ⟨ys, n, hn, rfl, hlen, hyl, hf⟩ := DataW.trod_struct Try.underlying43 h
  rw [cn_way] at hlen
  obtain ⟨y0, rfl⟩ := list1 hyl
  have f0 : DataW.trod enc Try.prog w base spare held n 41 ((cs.drop 0).take (Try.prog.cellsOf 41)) = some y0 := hf 0 _ rfl
  rw [cn_movs] at f0
  obtain ⟨a0, r0, o0, m0⟩ := opens_slice Mov.ts Mov.bulk 4 (by omega) Mov.ts_len Try.underlying41 cn_mov (fun m _ => opensMov m) _ _ f0
  refine ⟨a0, ?_, ?_, ?_⟩
  · have := rts_seg r0 (rts_end hlen)
    simpa [movRow] using this
  · have := one_seg o0 (one_end hlen)
    simpa using this
  · simp only [List.map_cons, List.map_nil, Rows.uptoBulk, Rows.uptoBulkAll] at m0 ⊢
    omega
def Sav.cells (s : Sav) : List T := [.lit (.string s.actor), V.row s.state, inpRow s.inputs]
theorem opensSav (fuel : Nat) : Opens enc Try.prog w base spare held 40 Sav.cells (fun s => V.sizes s.state + (s.inputs.map fun x => x.val.size).sum) fuel := by
  intro cs x h
  obtain ⟨ys, n, hn, rfl, hlen, hyl, hf⟩ := DataW.trod_struct Try.underlying40 h
  rw [cn_sav] at hlen
  obtain ⟨y0, y1, y2, rfl⟩ := list3' hyl
  have f0 : DataW.trod enc Try.prog w base spare held n 9 ((cs.drop 0).take (Try.prog.cellsOf 9)) = some y0 := hf 0 _ rfl
  have f1 : DataW.trod enc Try.prog w base spare held n 37 ((cs.drop 1).take (Try.prog.cellsOf 37)) = some y1 := hf 1 _ rfl
  have f2 : DataW.trod enc Try.prog w base spare held n 38 ((cs.drop 2).take (Try.prog.cellsOf 38)) = some y2 := hf 2 _ rfl
  rw [cn_str] at f0
  rw [cn_vals] at f1
  rw [cn_inps] at f2
  obtain ⟨a0, r0, o0, -⟩ := opens_str Try.underlying9 _ _ f0
  obtain ⟨a1, r1, o1, m1⟩ := opensVs _ _ _ f1
  obtain ⟨a2, r2, o2, m2⟩ := opens_slice Inp.ts (fun x => x.val.size) 5 (by omega) Inp.ts_len Try.underlying38 cn_inp (fun m _ => opensInp m) _ _ f2
  refine ⟨⟨a0, a1, a2⟩, ?_, ?_, ?_⟩
  · have := rts_seg r0 (rts_seg r1 (rts_seg r2 (rts_end hlen)))
    simpa [Sav.cells, inpRow] using this
  · have := one_seg o0 (one_seg o1 (one_seg o2 (one_end hlen)))
    simpa using this
  · simp only [List.map_cons, List.map_nil, Rows.uptoBulk, Rows.uptoBulkAll] at m1 m2 ⊢
    omega
end

end Go.Proofs.Ytdajeoifmfbgkaa
