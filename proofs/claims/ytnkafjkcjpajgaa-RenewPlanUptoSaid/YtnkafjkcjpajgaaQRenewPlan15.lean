/-
  Texts of this proof, part 15: OpenY OpenE.
-/
import Derived.Test.YtnkafjkcjpajgaaQRenewPlan14
import Derived.Lib.AppendStr
import Derived.Lib.AppendZerosOnto
import Derived.Lib.MinMax
namespace Go.Proofs.Ytnkafjkcjpajgaa
open Go.ChangeShapes Go.WideShapes Go.ChangeAt Go.RowKit Go.Deep
theorem listN2 {α : Type} {l : List α} (h : l.length = 2) : ∃ a b, l = [a, b] := match l, h with | [a, b], _ => ⟨a, b, rfl⟩
theorem listN3 {α : Type} {l : List α} (h : l.length = 3) : ∃ a b c, l = [a, b, c] := match l, h with | [a, b, c], _ => ⟨a, b, c, rfl⟩
theorem listN4 {α : Type} {l : List α} (h : l.length = 4) : ∃ a b c d, l = [a, b, c, d] := match l, h with | [a, b, c, d], _ => ⟨a, b, c, d, rfl⟩
theorem listN5 {α : Type} {l : List α} (h : l.length = 5) : ∃ a b c d e, l = [a, b, c, d, e] := match l, h with | [a, b, c, d, e], _ => ⟨a, b, c, d, e, rfl⟩
theorem listN6 {α : Type} {l : List α} (h : l.length = 6) : ∃ a b c d e f, l = [a, b, c, d, e, f] := match l, h with | [a, b, c, d, e, f], _ => ⟨a, b, c, d, e, f, rfl⟩
theorem listN8 {α : Type} {l : List α} (h : l.length = 8) : ∃ a b c d e f g i, l = [a, b, c, d, e, f, g, i] := match l, h with | [a, b, c, d, e, f, g, i], _ => ⟨a, b, c, d, e, f, g, i, rfl⟩
theorem rts_seg {M : Mm} {ts us : List T} {cs : List Value} {o c : Nat} (h : RTs M ts ((cs.drop o).take c)) (h' : RTs M us (cs.drop (o + c))) : RTs M (ts ++ us) (cs.drop o) := by
  have := h.app h'
  rwa [← List.drop_drop, List.take_append_drop] at this
theorem rts_end {M : Mm} {cs : List Value} {o : Nat} (h : cs.length = o) : RTs M [] (cs.drop o) := by rw [← h, List.drop_length]; simp [RTs]
theorem one_seg {cs : List Value} {o c : Nat} (h : OneAll ((cs.drop o).take c)) (h' : OneAll (cs.drop (o + c))) : OneAll (cs.drop o) := by
  have := h.app h'
  rwa [← List.drop_drop, List.take_append_drop] at this
theorem one_end {cs : List Value} {o : Nat} (h : cs.length = o) : OneAll (cs.drop o) := by rw [← h, List.drop_length]; intro x hx; simp at hx
section
variable {H : Type} {enc : TypeId × Value → H} {P : Program} {w : World} {base : Nat} {spare : Nat → Bool} {held : Bool}
theorem opens_strz {t : TypeId} {fuel : Nat} (ht : P.underlying t = some .string) : Opens enc P w base spare held t (fun s : ByteArray => [.lit (.string s)]) (fun s => s.size + 1) fuel := by
  intro cs x h
  obtain ⟨i, rfl, rfl, _⟩ := DataW.trod_string ht h
  exact ⟨i, by simp [RTs, RT], fun u hu => by simp at hu; subst hu; rfl, by simp [Rows.uptoBulk]⟩
theorem cn_int : Try.prog.cellsOf 3 = 1 := by kernel_rfl
theorem cn_str : Try.prog.cellsOf 9 = 1 := by kernel_rfl
theorem cn_Y : Try.prog.cellsOf 69 = 3 := by kernel_rfl
theorem opensY : ∀ fuel, Opens enc Try.prog w base spare held 69 Y.ts Y.size fuel := by
  intro fuel
  induction fuel using Nat.strongRecOn with
  | _ fuel ih =>
    intro cs x h
    obtain ⟨ys, n, hn, rfl, hlen, hyl, hf⟩ := DataW.trod_struct Try.underlying69 h
    rw [cn_Y] at hlen
    obtain ⟨y0, y1, y2, rfl⟩ := listN3 hyl
    have f0 : DataW.trod enc Try.prog w base spare held n 3 ((cs.drop 0).take (Try.prog.cellsOf 3)) = some y0 := hf 0 _ rfl
    have f1 : DataW.trod enc Try.prog w base spare held n 9 ((cs.drop 1).take (Try.prog.cellsOf 9)) = some y1 := hf 1 _ rfl
    have f2 : DataW.trod enc Try.prog w base spare held n 67 ((cs.drop 2).take (Try.prog.cellsOf 67)) = some y2 := hf 2 _ rfl
    rw [cn_int] at f0
    rw [cn_str] at f1
    rw [show Try.prog.cellsOf 67 = 1 by kernel_rfl] at f2
    obtain ⟨a0, r0, o0, -⟩ := opens_int Try.underlying3 _ _ f0
    obtain ⟨a1, r1, o1, m1⟩ := opens_strz Try.underlying9 _ _ f1
    obtain ⟨a2, r2, o2, m2⟩ := opens_slice Y.ts Y.size 3 (by omega) Y.ts_len Try.underlying67 cn_Y (fun m hm => ih m (by omega)) _ _ f2
    refine ⟨.mk a0 a1 a2, ?_, ?_, ?_⟩
    · have := rts_seg r0 (rts_seg r1 (rts_seg r2 (rts_end hlen)))
      simpa [Y.ts, Y.all_eq] using this
    · have := one_seg o0 (one_seg o1 (one_seg o2 (one_end hlen)))
      simpa using this
    · simp only [Y.size, Y.sizes_sum, List.map_cons, List.map_nil, Rows.uptoBulk, Rows.uptoBulkAll] at m1 m2 ⊢
      omega
end
end Go.Proofs.Ytnkafjkcjpajgaa
namespace Go.Proofs.Ytnkafjkcjpajgaa
open Go.ChangeShapes Go.WideShapes Go.ChangeAt Go.RowKit Go.Deep
theorem V.sizes_sum : ∀ l : List V, V.sizes l = (l.map V.size).sum
  | [] => rfl
  | v :: l => by simp [V.sizes, V.sizes_sum l]
instance : Inhabited V := ⟨.mk 0 0 ⟨#[]⟩ []⟩
section
variable {H : Type} {enc : TypeId × Value → H} {w : World} {base : Nat} {spare : Nat → Bool} {held : Bool}
theorem cn_Pat : Try.prog.cellsOf 186 = 4 := by kernel_rfl
theorem opensPat : ∀ fuel, Opens enc Try.prog w base spare held 186 V.ts V.size fuel := by
  intro fuel
  induction fuel using Nat.strongRecOn with
  | _ fuel ih =>
    intro cs x h
    obtain ⟨ys, n, hn, rfl, hlen, hyl, hf⟩ := DataW.trod_struct Try.underlying186 h
    rw [cn_Pat] at hlen
    obtain ⟨y0, y1, y2, y3, rfl⟩ := listN4 hyl
    have f0 : DataW.trod enc Try.prog w base spare held n 3 ((cs.drop 0).take (Try.prog.cellsOf 3)) = some y0 := hf 0 _ rfl
    have f1 : DataW.trod enc Try.prog w base spare held n 3 ((cs.drop 1).take (Try.prog.cellsOf 3)) = some y1 := hf 1 _ rfl
    have f2 : DataW.trod enc Try.prog w base spare held n 9 ((cs.drop 2).take (Try.prog.cellsOf 9)) = some y2 := hf 2 _ rfl
    have f3 : DataW.trod enc Try.prog w base spare held n 184 ((cs.drop 3).take (Try.prog.cellsOf 184)) = some y3 := hf 3 _ rfl
    rw [cn_int] at f0 f1
    rw [cn_str] at f2
    rw [show Try.prog.cellsOf 184 = 1 by kernel_rfl] at f3
    obtain ⟨a0, r0, o0, -⟩ := opens_int Try.underlying3 _ _ f0
    obtain ⟨a1, r1, o1, -⟩ := opens_int Try.underlying3 _ _ f1
    obtain ⟨a2, r2, o2, -⟩ := opens_str Try.underlying9 _ _ f2
    obtain ⟨a3, r3, o3, m3⟩ := opens_slice V.ts V.size 4 (by omega) V.ts_len Try.underlying184 cn_Pat (fun m hm => ih m (by omega)) _ _ f3
    refine ⟨.mk a0 a1 a2 a3, ?_, ?_, ?_⟩
    · have := rts_seg r0 (rts_seg r1 (rts_seg r2 (rts_seg r3 (rts_end hlen))))
      simpa [V.ts, V.all_eq] using this
    · have := one_seg o0 (one_seg o1 (one_seg o2 (one_seg o3 (one_end hlen))))
      simpa using this
    · simp only [V.size, V.sizes_sum, List.map_cons, List.map_nil, Rows.uptoBulk, Rows.uptoBulkAll] at m3 ⊢
      omega
theorem cn_Ex : Try.prog.cellsOf 73 = 8 := by kernel_rfl
theorem cn_Ar : Try.prog.cellsOf 188 = 12 := by kernel_rfl
theorem opensAr {fuel : Nat} (ih : ∀ m, m < fuel → Opens enc Try.prog w base spare held 73 Ex.ts Ex.size m) : Opens enc Try.prog w base spare held 188 Ar.ts Ar.size fuel := by
  intro cs x h
  obtain ⟨ys, n, hn, rfl, hlen, hyl, hf⟩ := DataW.trod_struct Try.underlying188 h
  rw [cn_Ar] at hlen
  obtain ⟨y0, y1, rfl⟩ := listN2 hyl
  have f0 : DataW.trod enc Try.prog w base spare held n 186 ((cs.drop 0).take (Try.prog.cellsOf 186)) = some y0 := hf 0 _ rfl
  have f1 : DataW.trod enc Try.prog w base spare held n 73 ((cs.drop 4).take (Try.prog.cellsOf 73)) = some y1 := hf 1 _ rfl
  rw [cn_Pat] at f0
  rw [cn_Ex] at f1
  obtain ⟨a0, r0, o0, m0⟩ := opensPat _ _ _ f0
  obtain ⟨a1, r1, o1, m1⟩ := ih n (by omega) _ _ f1
  refine ⟨.mk a0 a1, ?_, ?_, ?_⟩
  · have := rts_seg r0 (rts_seg r1 (rts_end hlen))
    simpa [Ar.ts] using this
  · have := one_seg o0 (one_seg o1 (one_end hlen))
    simpa using this
  · simp only [Ar.size, List.map_cons, List.map_nil, Rows.uptoBulk, Rows.uptoBulkAll] at m0 m1 ⊢
    omega
theorem opensEx : ∀ fuel, Opens enc Try.prog w base spare held 73 Ex.ts Ex.size fuel := by
  intro fuel
  induction fuel using Nat.strongRecOn with
  | _ fuel ih =>
    intro cs x h
    obtain ⟨ys, n, hn, rfl, hlen, hyl, hf⟩ := DataW.trod_struct Try.underlying73 h
    rw [cn_Ex] at hlen
    obtain ⟨y0, y1, y2, y3, y4, y5, y6, y7, rfl⟩ := listN8 hyl
    have f0 : DataW.trod enc Try.prog w base spare held n 3 ((cs.drop 0).take (Try.prog.cellsOf 3)) = some y0 := hf 0 _ rfl
    rw [show Try.prog.cellsOf 3 = 1 by kernel_rfl] at f0
    have f1 : DataW.trod enc Try.prog w base spare held n 3 ((cs.drop 1).take (Try.prog.cellsOf 3)) = some y1 := hf 1 _ rfl
    rw [show Try.prog.cellsOf 3 = 1 by kernel_rfl] at f1
    have f2 : DataW.trod enc Try.prog w base spare held n 9 ((cs.drop 2).take (Try.prog.cellsOf 9)) = some y2 := hf 2 _ rfl
    rw [show Try.prog.cellsOf 9 = 1 by kernel_rfl] at f2
    have f3 : DataW.trod enc Try.prog w base spare held n 57 ((cs.drop 3).take (Try.prog.cellsOf 57)) = some y3 := hf 3 _ rfl
    rw [show Try.prog.cellsOf 57 = 1 by kernel_rfl] at f3
    have f4 : DataW.trod enc Try.prog w base spare held n 67 ((cs.drop 4).take (Try.prog.cellsOf 67)) = some y4 := hf 4 _ rfl
    rw [show Try.prog.cellsOf 67 = 1 by kernel_rfl] at f4
    have f5 : DataW.trod enc Try.prog w base spare held n 70 ((cs.drop 5).take (Try.prog.cellsOf 70)) = some y5 := hf 5 _ rfl
    rw [show Try.prog.cellsOf 70 = 1 by kernel_rfl] at f5
    have f6 : DataW.trod enc Try.prog w base spare held n 71 ((cs.drop 6).take (Try.prog.cellsOf 71)) = some y6 := hf 6 _ rfl
    rw [show Try.prog.cellsOf 71 = 1 by kernel_rfl] at f6
    have f7 : DataW.trod enc Try.prog w base spare held n 3 ((cs.drop 7).take (Try.prog.cellsOf 3)) = some y7 := hf 7 _ rfl
    rw [show Try.prog.cellsOf 3 = 1 by kernel_rfl] at f7
    obtain ⟨a0, r0, o0, -⟩ := opens_int Try.underlying3 _ _ f0
    obtain ⟨a1, r1, o1, -⟩ := opens_int Try.underlying3 _ _ f1
    obtain ⟨a2, r2, o2, m2⟩ := opens_strz Try.underlying9 _ _ f2
    obtain ⟨a3, r3, o3, m3⟩ := opens_slice strTs (fun s => s.size + 1) 1 (by omega) (fun _ => rfl) Try.underlying57 cn_str (fun m _ => opens_strz Try.underlying9) _ _ f3
    obtain ⟨a4, r4, o4, m4⟩ := opens_slice Y.ts Y.size 3 (by omega) Y.ts_len Try.underlying67 cn_Y (fun m _ => opensY m) _ _ f4
    obtain ⟨a5, r5, o5, m5⟩ := opens_slice Ex.ts Ex.size 8 (by omega) Ex.ts_len Try.underlying70 cn_Ex (fun m hm => ih m (by omega)) _ _ f5
    obtain ⟨a6, r6, o6, m6⟩ := opens_slice Ar.ts Ar.size 12 (by omega) Ar.ts_len Try.underlying71 cn_Ar (fun m hm => opensAr (fun j hj => ih j (by omega))) _ _ f6
    obtain ⟨a7, r7, o7, -⟩ := opens_int Try.underlying3 _ _ f7
    refine ⟨.mk a0 a1 a2 a3 a4 a5 a6 a7, ?_, ?_, ?_⟩
    · have := rts_seg r0 (rts_seg r1 (rts_seg r2 (rts_seg r3 (rts_seg r4 (rts_seg r5 (rts_seg r6 (rts_seg r7 (rts_end hlen))))))))
      simpa [Ex.ts, Ex.all_eq, Ar.all_eq, Y.row, Y.all_eq, strRow] using this
    · have := one_seg o0 (one_seg o1 (one_seg o2 (one_seg o3 (one_seg o4 (one_seg o5 (one_seg o6 (one_seg o7 (one_end hlen))))))))
      simpa using this
    · simp only [Ex.size, strSize, Y.sizes_sum, Ex.sizes_sum, Ar.sizes_sum, List.map_cons, List.map_nil, Rows.uptoBulk, Rows.uptoBulkAll] at m2 m3 m4 m5 m6 ⊢
      omega
theorem cn_Us : Try.prog.cellsOf 118 = 3 := by kernel_rfl
theorem opensUs (fuel : Nat) : Opens enc Try.prog w base spare held 118 Us.ts Us.size fuel := by
  intro cs x h
  obtain ⟨ys, n, hn, rfl, hlen, hyl, hf⟩ := DataW.trod_struct Try.underlying118 h
  rw [cn_Us] at hlen
  obtain ⟨y0, y1, y2, rfl⟩ := listN3 hyl
  have f0 : DataW.trod enc Try.prog w base spare held n 9 ((cs.drop 0).take (Try.prog.cellsOf 9)) = some y0 := hf 0 _ rfl
  rw [show Try.prog.cellsOf 9 = 1 by kernel_rfl] at f0
  have f1 : DataW.trod enc Try.prog w base spare held n 3 ((cs.drop 1).take (Try.prog.cellsOf 3)) = some y1 := hf 1 _ rfl
  rw [show Try.prog.cellsOf 3 = 1 by kernel_rfl] at f1
  have f2 : DataW.trod enc Try.prog w base spare held n 3 ((cs.drop 2).take (Try.prog.cellsOf 3)) = some y2 := hf 2 _ rfl
  rw [show Try.prog.cellsOf 3 = 1 by kernel_rfl] at f2
  obtain ⟨a0, r0, o0, m0⟩ := opens_strz Try.underlying9 _ _ f0
  obtain ⟨a1, r1, o1, m1⟩ := opens_int Try.underlying3 _ _ f1
  obtain ⟨a2, r2, o2, m2⟩ := opens_int Try.underlying3 _ _ f2
  refine ⟨⟨a0, a1, a2⟩, ?_, ?_, ?_⟩
  · have := rts_seg r0 (rts_seg r1 (rts_seg r2 (rts_end hlen)))
    simpa [Us.ts] using this
  · have := one_seg o0 (one_seg o1 (one_seg o2 (one_end hlen)))
    simpa using this
  · simp only [Us.size, List.map_cons, List.map_nil, Rows.uptoBulk, Rows.uptoBulkAll] at m0 m1 m2 ⊢
    omega
theorem cn_Mk : Try.prog.cellsOf 137 = 2 := by kernel_rfl
theorem opensMk (fuel : Nat) : Opens enc Try.prog w base spare held 137 Mk.ts Mk.size fuel := by
  intro cs x h
  obtain ⟨ys, n, hn, rfl, hlen, hyl, hf⟩ := DataW.trod_struct Try.underlying137 h
  rw [cn_Mk] at hlen
  obtain ⟨y0, y1, rfl⟩ := listN2 hyl
  have f0 : DataW.trod enc Try.prog w base spare held n 9 ((cs.drop 0).take (Try.prog.cellsOf 9)) = some y0 := hf 0 _ rfl
  rw [show Try.prog.cellsOf 9 = 1 by kernel_rfl] at f0
  have f1 : DataW.trod enc Try.prog w base spare held n 67 ((cs.drop 1).take (Try.prog.cellsOf 67)) = some y1 := hf 1 _ rfl
  rw [show Try.prog.cellsOf 67 = 1 by kernel_rfl] at f1
  obtain ⟨a0, r0, o0, m0⟩ := opens_strz Try.underlying9 _ _ f0
  obtain ⟨a1, r1, o1, m1⟩ := opens_slice Y.ts Y.size 3 (by omega) Y.ts_len Try.underlying67 cn_Y (fun m _ => opensY m) _ _ f1
  refine ⟨⟨a0, a1⟩, ?_, ?_, ?_⟩
  · have := rts_seg r0 (rts_seg r1 (rts_end hlen))
    simpa [Mk.ts, Y.all_eq, Y.row] using this
  · have := one_seg o0 (one_seg o1 (one_end hlen))
    simpa using this
  · simp only [Mk.size, Y.sizes_sum, List.map_cons, List.map_nil, Rows.uptoBulk, Rows.uptoBulkAll] at m0 m1 ⊢
    omega
theorem cn_Da : Try.prog.cellsOf 135 = 3 := by kernel_rfl
theorem opensDa (fuel : Nat) : Opens enc Try.prog w base spare held 135 Da.ts Da.size fuel := by
  intro cs x h
  obtain ⟨ys, n, hn, rfl, hlen, hyl, hf⟩ := DataW.trod_struct Try.underlying135 h
  rw [cn_Da] at hlen
  obtain ⟨y0, y1, y2, rfl⟩ := listN3 hyl
  have f0 : DataW.trod enc Try.prog w base spare held n 9 ((cs.drop 0).take (Try.prog.cellsOf 9)) = some y0 := hf 0 _ rfl
  rw [show Try.prog.cellsOf 9 = 1 by kernel_rfl] at f0
  have f1 : DataW.trod enc Try.prog w base spare held n 57 ((cs.drop 1).take (Try.prog.cellsOf 57)) = some y1 := hf 1 _ rfl
  rw [show Try.prog.cellsOf 57 = 1 by kernel_rfl] at f1
  have f2 : DataW.trod enc Try.prog w base spare held n 133 ((cs.drop 2).take (Try.prog.cellsOf 133)) = some y2 := hf 2 _ rfl
  rw [show Try.prog.cellsOf 133 = 1 by kernel_rfl] at f2
  obtain ⟨a0, r0, o0, m0⟩ := opens_strz Try.underlying9 _ _ f0
  obtain ⟨a1, r1, o1, m1⟩ := opens_slice strTs (fun s => s.size + 1) 1 (by omega) (fun _ => rfl) Try.underlying57 cn_str (fun m _ => opens_strz Try.underlying9) _ _ f1
  obtain ⟨a2, r2, o2, m2⟩ := opens_slice Mk.ts Mk.size 2 (by omega) Mk.ts_len Try.underlying133 cn_Mk (fun m _ => opensMk m) _ _ f2
  refine ⟨⟨a0, a1, a2⟩, ?_, ?_, ?_⟩
  · have := rts_seg r0 (rts_seg r1 (rts_seg r2 (rts_end hlen)))
    simpa [Da.ts, Mk.row, strRow] using this
  · have := one_seg o0 (one_seg o1 (one_seg o2 (one_end hlen)))
    simpa using this
  · simp only [Da.size, Mk.sizes, strSize, List.map_cons, List.map_nil, Rows.uptoBulk, Rows.uptoBulkAll] at m0 m1 m2 ⊢
    omega
theorem cn_Fu : Try.prog.cellsOf 183 = 15 := by kernel_rfl
theorem opensFu (fuel : Nat) : Opens enc Try.prog w base spare held 183 Fu.ts Fu.size fuel := by
  intro cs x h
  obtain ⟨ys, n, hn, rfl, hlen, hyl, hf⟩ := DataW.trod_struct Try.underlying183 h
  rw [cn_Fu] at hlen
  obtain ⟨y0, y1, y2, y3, y4, y5, rfl⟩ := listN6 hyl
  have f0 : DataW.trod enc Try.prog w base spare held n 9 ((cs.drop 0).take (Try.prog.cellsOf 9)) = some y0 := hf 0 _ rfl
  rw [show Try.prog.cellsOf 9 = 1 by kernel_rfl] at f0
  have f1 : DataW.trod enc Try.prog w base spare held n 57 ((cs.drop 1).take (Try.prog.cellsOf 57)) = some y1 := hf 1 _ rfl
  rw [show Try.prog.cellsOf 57 = 1 by kernel_rfl] at f1
  have f2 : DataW.trod enc Try.prog w base spare held n 57 ((cs.drop 2).take (Try.prog.cellsOf 57)) = some y2 := hf 2 _ rfl
  rw [show Try.prog.cellsOf 57 = 1 by kernel_rfl] at f2
  have f3 : DataW.trod enc Try.prog w base spare held n 67 ((cs.drop 3).take (Try.prog.cellsOf 67)) = some y3 := hf 3 _ rfl
  rw [show Try.prog.cellsOf 67 = 1 by kernel_rfl] at f3
  have f4 : DataW.trod enc Try.prog w base spare held n 69 ((cs.drop 4).take (Try.prog.cellsOf 69)) = some y4 := hf 4 _ rfl
  rw [show Try.prog.cellsOf 69 = 3 by kernel_rfl] at f4
  have f5 : DataW.trod enc Try.prog w base spare held n 73 ((cs.drop 7).take (Try.prog.cellsOf 73)) = some y5 := hf 5 _ rfl
  rw [show Try.prog.cellsOf 73 = 8 by kernel_rfl] at f5
  obtain ⟨a0, r0, o0, m0⟩ := opens_strz Try.underlying9 _ _ f0
  obtain ⟨a1, r1, o1, m1⟩ := opens_slice strTs (fun s => s.size + 1) 1 (by omega) (fun _ => rfl) Try.underlying57 cn_str (fun m _ => opens_strz Try.underlying9) _ _ f1
  obtain ⟨a2, r2, o2, m2⟩ := opens_slice strTs (fun s => s.size + 1) 1 (by omega) (fun _ => rfl) Try.underlying57 cn_str (fun m _ => opens_strz Try.underlying9) _ _ f2
  obtain ⟨a3, r3, o3, m3⟩ := opens_slice Y.ts Y.size 3 (by omega) Y.ts_len Try.underlying67 cn_Y (fun m _ => opensY m) _ _ f3
  obtain ⟨a4, r4, o4, m4⟩ := opensY _ _ _ f4
  obtain ⟨a5, r5, o5, m5⟩ := opensEx _ _ _ f5
  refine ⟨⟨a0, a1, a2, a3, a4, a5⟩, ?_, ?_, ?_⟩
  · have := rts_seg r0 (rts_seg r1 (rts_seg r2 (rts_seg r3 (rts_seg r4 (rts_seg r5 (rts_end hlen))))))
    simpa [Fu.ts, Y.all_eq, Y.row, strRow] using this
  · have := one_seg o0 (one_seg o1 (one_seg o2 (one_seg o3 (one_seg o4 (one_seg o5 (one_end hlen))))))
    simpa using this
  · simp only [Fu.size, Y.sizes_sum, strSize, List.map_cons, List.map_nil, Rows.uptoBulk, Rows.uptoBulkAll] at m0 m1 m2 m3 m4 m5 ⊢
    omega
theorem cn_Tr : Try.prog.cellsOf 140 = 2 := by kernel_rfl
theorem opensTr (fuel : Nat) : Opens enc Try.prog w base spare held 140 Tr.ts Tr.size fuel := by
  intro cs x h
  obtain ⟨ys, n, hn, rfl, hlen, hyl, hf⟩ := DataW.trod_struct Try.underlying140 h
  rw [cn_Tr] at hlen
  obtain ⟨y0, y1, rfl⟩ := listN2 hyl
  have f0 : DataW.trod enc Try.prog w base spare held n 9 ((cs.drop 0).take (Try.prog.cellsOf 9)) = some y0 := hf 0 _ rfl
  rw [show Try.prog.cellsOf 9 = 1 by kernel_rfl] at f0
  have f1 : DataW.trod enc Try.prog w base spare held n 63 ((cs.drop 1).take (Try.prog.cellsOf 63)) = some y1 := hf 1 _ rfl
  rw [show Try.prog.cellsOf 63 = 1 by kernel_rfl] at f1
  obtain ⟨a0, r0, o0, m0⟩ := opens_strz Try.underlying9 _ _ f0
  obtain ⟨a1, r1, o1, m1⟩ := opens_slice Fu.ts Fu.size 15 (by omega) Fu.ts_len Try.underlying63 cn_Fu (fun m _ => opensFu m) _ _ f1
  refine ⟨⟨a0, a1⟩, ?_, ?_, ?_⟩
  · have := rts_seg r0 (rts_seg r1 (rts_end hlen))
    simpa [Tr.ts, Fu.row] using this
  · have := one_seg o0 (one_seg o1 (one_end hlen))
    simpa using this
  · simp only [Tr.size, Fu.sizes, List.map_cons, List.map_nil, Rows.uptoBulk, Rows.uptoBulkAll] at m0 m1 ⊢
    omega
theorem cn_Im : Try.prog.cellsOf 142 = 3 := by kernel_rfl
theorem opensIm (fuel : Nat) : Opens enc Try.prog w base spare held 142 Im.ts Im.size fuel := by
  intro cs x h
  obtain ⟨ys, n, hn, rfl, hlen, hyl, hf⟩ := DataW.trod_struct Try.underlying142 h
  rw [cn_Im] at hlen
  obtain ⟨y0, y1, y2, rfl⟩ := listN3 hyl
  have f0 : DataW.trod enc Try.prog w base spare held n 9 ((cs.drop 0).take (Try.prog.cellsOf 9)) = some y0 := hf 0 _ rfl
  rw [show Try.prog.cellsOf 9 = 1 by kernel_rfl] at f0
  have f1 : DataW.trod enc Try.prog w base spare held n 9 ((cs.drop 1).take (Try.prog.cellsOf 9)) = some y1 := hf 1 _ rfl
  rw [show Try.prog.cellsOf 9 = 1 by kernel_rfl] at f1
  have f2 : DataW.trod enc Try.prog w base spare held n 63 ((cs.drop 2).take (Try.prog.cellsOf 63)) = some y2 := hf 2 _ rfl
  rw [show Try.prog.cellsOf 63 = 1 by kernel_rfl] at f2
  obtain ⟨a0, r0, o0, m0⟩ := opens_strz Try.underlying9 _ _ f0
  obtain ⟨a1, r1, o1, m1⟩ := opens_strz Try.underlying9 _ _ f1
  obtain ⟨a2, r2, o2, m2⟩ := opens_slice Fu.ts Fu.size 15 (by omega) Fu.ts_len Try.underlying63 cn_Fu (fun m _ => opensFu m) _ _ f2
  refine ⟨⟨a0, a1, a2⟩, ?_, ?_, ?_⟩
  · have := rts_seg r0 (rts_seg r1 (rts_seg r2 (rts_end hlen)))
    simpa [Im.ts, Fu.row] using this
  · have := one_seg o0 (one_seg o1 (one_seg o2 (one_end hlen)))
    simpa using this
  · simp only [Im.size, Fu.sizes, List.map_cons, List.map_nil, Rows.uptoBulk, Rows.uptoBulkAll] at m0 m1 m2 ⊢
    omega
theorem cn_Ac : Try.prog.cellsOf 75 = 14 := by kernel_rfl
theorem opensAc (fuel : Nat) : Opens enc Try.prog w base spare held 75 Ac.ts Ac.size fuel := by
  intro cs x h
  obtain ⟨ys, n, hn, rfl, hlen, hyl, hf⟩ := DataW.trod_struct Try.underlying75 h
  rw [cn_Ac] at hlen
  obtain ⟨y0, y1, y2, y3, y4, rfl⟩ := listN5 hyl
  have f0 : DataW.trod enc Try.prog w base spare held n 9 ((cs.drop 0).take (Try.prog.cellsOf 9)) = some y0 := hf 0 _ rfl
  rw [show Try.prog.cellsOf 9 = 1 by kernel_rfl] at f0
  have f1 : DataW.trod enc Try.prog w base spare held n 57 ((cs.drop 1).take (Try.prog.cellsOf 57)) = some y1 := hf 1 _ rfl
  rw [show Try.prog.cellsOf 57 = 1 by kernel_rfl] at f1
  have f2 : DataW.trod enc Try.prog w base spare held n 67 ((cs.drop 2).take (Try.prog.cellsOf 67)) = some y2 := hf 2 _ rfl
  rw [show Try.prog.cellsOf 67 = 1 by kernel_rfl] at f2
  have f3 : DataW.trod enc Try.prog w base spare held n 69 ((cs.drop 3).take (Try.prog.cellsOf 69)) = some y3 := hf 3 _ rfl
  rw [show Try.prog.cellsOf 69 = 3 by kernel_rfl] at f3
  have f4 : DataW.trod enc Try.prog w base spare held n 73 ((cs.drop 6).take (Try.prog.cellsOf 73)) = some y4 := hf 4 _ rfl
  rw [show Try.prog.cellsOf 73 = 8 by kernel_rfl] at f4
  obtain ⟨a0, r0, o0, m0⟩ := opens_strz Try.underlying9 _ _ f0
  obtain ⟨a1, r1, o1, m1⟩ := opens_slice strTs (fun s => s.size + 1) 1 (by omega) (fun _ => rfl) Try.underlying57 cn_str (fun m _ => opens_strz Try.underlying9) _ _ f1
  obtain ⟨a2, r2, o2, m2⟩ := opens_slice Y.ts Y.size 3 (by omega) Y.ts_len Try.underlying67 cn_Y (fun m _ => opensY m) _ _ f2
  obtain ⟨a3, r3, o3, m3⟩ := opensY _ _ _ f3
  obtain ⟨a4, r4, o4, m4⟩ := opensEx _ _ _ f4
  refine ⟨⟨a0, a1, a2, a3, a4⟩, ?_, ?_, ?_⟩
  · have := rts_seg r0 (rts_seg r1 (rts_seg r2 (rts_seg r3 (rts_seg r4 (rts_end hlen)))))
    simpa [Ac.ts, Y.all_eq, Y.row, strRow] using this
  · have := one_seg o0 (one_seg o1 (one_seg o2 (one_seg o3 (one_seg o4 (one_end hlen)))))
    simpa using this
  · simp only [Ac.size, Y.sizes_sum, strSize, List.map_cons, List.map_nil, Rows.uptoBulk, Rows.uptoBulkAll] at m0 m1 m2 m3 m4 ⊢
    omega
theorem cn_Pr : Try.prog.cellsOf 66 = 8 := by kernel_rfl
theorem opensPr (fuel : Nat) : Opens enc Try.prog w base spare held 66 Pr.ts Pr.size fuel := by
  intro cs x h
  obtain ⟨ys, n, hn, rfl, hlen, hyl, hf⟩ := DataW.trod_struct Try.underlying66 h
  rw [cn_Pr] at hlen
  obtain ⟨y0, y1, y2, y3, y4, y5, y6, y7, rfl⟩ := listN8 hyl
  have f0 : DataW.trod enc Try.prog w base spare held n 9 ((cs.drop 0).take (Try.prog.cellsOf 9)) = some y0 := hf 0 _ rfl
  rw [show Try.prog.cellsOf 9 = 1 by kernel_rfl] at f0
  have f1 : DataW.trod enc Try.prog w base spare held n 3 ((cs.drop 1).take (Try.prog.cellsOf 3)) = some y1 := hf 1 _ rfl
  rw [show Try.prog.cellsOf 3 = 1 by kernel_rfl] at f1
  have f2 : DataW.trod enc Try.prog w base spare held n 52 ((cs.drop 2).take (Try.prog.cellsOf 52)) = some y2 := hf 2 _ rfl
  rw [show Try.prog.cellsOf 52 = 1 by kernel_rfl] at f2
  have f3 : DataW.trod enc Try.prog w base spare held n 60 ((cs.drop 3).take (Try.prog.cellsOf 60)) = some y3 := hf 3 _ rfl
  rw [show Try.prog.cellsOf 60 = 1 by kernel_rfl] at f3
  have f4 : DataW.trod enc Try.prog w base spare held n 61 ((cs.drop 4).take (Try.prog.cellsOf 61)) = some y4 := hf 4 _ rfl
  rw [show Try.prog.cellsOf 61 = 1 by kernel_rfl] at f4
  have f5 : DataW.trod enc Try.prog w base spare held n 62 ((cs.drop 5).take (Try.prog.cellsOf 62)) = some y5 := hf 5 _ rfl
  rw [show Try.prog.cellsOf 62 = 1 by kernel_rfl] at f5
  have f6 : DataW.trod enc Try.prog w base spare held n 63 ((cs.drop 6).take (Try.prog.cellsOf 63)) = some y6 := hf 6 _ rfl
  rw [show Try.prog.cellsOf 63 = 1 by kernel_rfl] at f6
  have f7 : DataW.trod enc Try.prog w base spare held n 64 ((cs.drop 7).take (Try.prog.cellsOf 64)) = some y7 := hf 7 _ rfl
  rw [show Try.prog.cellsOf 64 = 1 by kernel_rfl] at f7
  obtain ⟨a0, r0, o0, m0⟩ := opens_strz Try.underlying9 _ _ f0
  obtain ⟨a1, r1, o1, m1⟩ := opens_int Try.underlying3 _ _ f1
  obtain ⟨a2, r2, o2, m2⟩ := opens_slice Us.ts Us.size 3 (by omega) Us.ts_len Try.underlying52 cn_Us (fun m _ => opensUs m) _ _ f2
  obtain ⟨a3, r3, o3, m3⟩ := opens_slice Da.ts Da.size 3 (by omega) Da.ts_len Try.underlying60 cn_Da (fun m _ => opensDa m) _ _ f3
  obtain ⟨a4, r4, o4, m4⟩ := opens_slice Tr.ts Tr.size 2 (by omega) Tr.ts_len Try.underlying61 cn_Tr (fun m _ => opensTr m) _ _ f4
  obtain ⟨a5, r5, o5, m5⟩ := opens_slice Im.ts Im.size 3 (by omega) Im.ts_len Try.underlying62 cn_Im (fun m _ => opensIm m) _ _ f5
  obtain ⟨a6, r6, o6, m6⟩ := opens_slice Fu.ts Fu.size 15 (by omega) Fu.ts_len Try.underlying63 cn_Fu (fun m _ => opensFu m) _ _ f6
  obtain ⟨a7, r7, o7, m7⟩ := opens_slice Ac.ts Ac.size 14 (by omega) Ac.ts_len Try.underlying64 cn_Ac (fun m _ => opensAc m) _ _ f7
  refine ⟨⟨a0, a1, a2, a3, a4, a5, a6, a7⟩, ?_, ?_, ?_⟩
  · have := rts_seg r0 (rts_seg r1 (rts_seg r2 (rts_seg r3 (rts_seg r4 (rts_seg r5 (rts_seg r6 (rts_seg r7 (rts_end hlen))))))))
    simpa [Pr.ts, Ac.row, Da.row, Fu.row, Im.row, Tr.row, Us.row] using this
  · have := one_seg o0 (one_seg o1 (one_seg o2 (one_seg o3 (one_seg o4 (one_seg o5 (one_seg o6 (one_seg o7 (one_end hlen))))))))
    simpa using this
  · simp only [Pr.size, Ac.sizes, Da.sizes, Fu.sizes, Im.sizes, Tr.sizes, Us.sizes, List.map_cons, List.map_nil, Rows.uptoBulk, Rows.uptoBulkAll] at m0 m1 m2 m3 m4 m5 m6 m7 ⊢
    omega
end
end Go.Proofs.Ytnkafjkcjpajgaa
