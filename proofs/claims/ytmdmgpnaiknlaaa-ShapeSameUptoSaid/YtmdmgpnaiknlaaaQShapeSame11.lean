/-
  Texts of this proof, part 11: OpenE.
-/
import Derived.Test.YtmdmgpnaiknlaaaQShapeSame10
import Derived.Lib.AppendStr
import Derived.Lib.AppendZerosOnto
import Derived.Lib.MinMax
namespace Go.Proofs.Ytmdmgpnaiknlaaa
open Go.ChangeShapes Go.WideShapes Go.ChangeAt Go.RowKit Go.Deep
theorem V.sizes_sum : ∀ l : List V, V.sizes l = (l.map V.size).sum
  | [] => rfl
  | v :: l => by simp [V.sizes, V.sizes_sum l]
instance : Inhabited V := ⟨.mk 0 0 ⟨#[]⟩ []⟩
section
variable {H : Type} {enc : TypeId × Value → H} {w : World} {base : Nat} {spare : Nat → Bool} {held : Bool}
theorem cn_Pat : Try.prog.cellsOf 104 = 4 := by kernel_rfl
theorem opensPat : ∀ fuel, Opens enc Try.prog w base spare held 104 V.ts V.size fuel := by
  intro fuel
  induction fuel using Nat.strongRecOn with
  | _ fuel ih =>
    intro cs x h
    obtain ⟨ys, n, hn, rfl, hlen, hyl, hf⟩ := DataW.trod_struct Try.underlying104 h
    rw [cn_Pat] at hlen
    obtain ⟨y0, y1, y2, y3, rfl⟩ := listN4 hyl
    have f0 : DataW.trod enc Try.prog w base spare held n 3 ((cs.drop 0).take (Try.prog.cellsOf 3)) = some y0 := hf 0 _ rfl
    have f1 : DataW.trod enc Try.prog w base spare held n 3 ((cs.drop 1).take (Try.prog.cellsOf 3)) = some y1 := hf 1 _ rfl
    have f2 : DataW.trod enc Try.prog w base spare held n 9 ((cs.drop 2).take (Try.prog.cellsOf 9)) = some y2 := hf 2 _ rfl
    have f3 : DataW.trod enc Try.prog w base spare held n 102 ((cs.drop 3).take (Try.prog.cellsOf 102)) = some y3 := hf 3 _ rfl
    rw [cn_int] at f0 f1
    rw [cn_str] at f2
    rw [show Try.prog.cellsOf 102 = 1 by kernel_rfl] at f3
    obtain ⟨a0, r0, o0, -⟩ := opens_int Try.underlying3 _ _ f0
    obtain ⟨a1, r1, o1, -⟩ := opens_int Try.underlying3 _ _ f1
    obtain ⟨a2, r2, o2, -⟩ := opens_str Try.underlying9 _ _ f2
    obtain ⟨a3, r3, o3, m3⟩ := opens_slice V.ts V.size 4 (by omega) V.ts_len Try.underlying102 cn_Pat (fun m hm => ih m (by omega)) _ _ f3
    refine ⟨.mk a0 a1 a2 a3, ?_, ?_, ?_⟩
    · have := rts_seg r0 (rts_seg r1 (rts_seg r2 (rts_seg r3 (rts_end hlen))))
      simpa [V.ts, V.all_eq] using this
    · have := one_seg o0 (one_seg o1 (one_seg o2 (one_seg o3 (one_end hlen))))
      simpa using this
    · simp only [V.size, V.sizes_sum, List.map_cons, List.map_nil, Rows.uptoBulk, Rows.uptoBulkAll] at m3 ⊢
      omega
theorem cn_Ex : Try.prog.cellsOf 40 = 8 := by kernel_rfl
theorem cn_Ar : Try.prog.cellsOf 106 = 12 := by kernel_rfl
theorem opensAr {fuel : Nat} (ih : ∀ m, m < fuel → Opens enc Try.prog w base spare held 40 Ex.ts Ex.size m) : Opens enc Try.prog w base spare held 106 Ar.ts Ar.size fuel := by
  intro cs x h
  obtain ⟨ys, n, hn, rfl, hlen, hyl, hf⟩ := DataW.trod_struct Try.underlying106 h
  rw [cn_Ar] at hlen
  obtain ⟨y0, y1, rfl⟩ := listN2 hyl
  have f0 : DataW.trod enc Try.prog w base spare held n 104 ((cs.drop 0).take (Try.prog.cellsOf 104)) = some y0 := hf 0 _ rfl
  have f1 : DataW.trod enc Try.prog w base spare held n 40 ((cs.drop 4).take (Try.prog.cellsOf 40)) = some y1 := hf 1 _ rfl
  rw [cn_Pat] at f0
  rw [cn_Ex] at f1
  obtain ⟨a0, r0, o0, m0⟩ := opensPat _ _ _ f0
  obtain ⟨a1, r1, o1, m1⟩ := ih n (by omega) _ _ f1
  refine ⟨.mk a0 a1, ?_, ?_, ?_⟩
  · have := rts_seg r0 (rts_seg r1 (rts_end hlen))
    simpa [Ar.ts] using this
  · have := one_seg o0 (one_seg o1 (one_end hlen))
    simpa using this
  · simp only [Ar.size, List.map_cons, List.map_nil, Rows.uptoBulk, Rows.uptoBulkAll] at m0 m1 ⊢
    omega
theorem opensEx : ∀ fuel, Opens enc Try.prog w base spare held 40 Ex.ts Ex.size fuel := by
  intro fuel
  induction fuel using Nat.strongRecOn with
  | _ fuel ih =>
    intro cs x h
    obtain ⟨ys, n, hn, rfl, hlen, hyl, hf⟩ := DataW.trod_struct Try.underlying40 h
    rw [cn_Ex] at hlen
    obtain ⟨y0, y1, y2, y3, y4, y5, y6, y7, rfl⟩ := listN8 hyl
    have f0 : DataW.trod enc Try.prog w base spare held n 3 ((cs.drop 0).take (Try.prog.cellsOf 3)) = some y0 := hf 0 _ rfl
    rw [show Try.prog.cellsOf 3 = 1 by kernel_rfl] at f0
    have f1 : DataW.trod enc Try.prog w base spare held n 3 ((cs.drop 1).take (Try.prog.cellsOf 3)) = some y1 := hf 1 _ rfl
    rw [show Try.prog.cellsOf 3 = 1 by kernel_rfl] at f1
    have f2 : DataW.trod enc Try.prog w base spare held n 9 ((cs.drop 2).take (Try.prog.cellsOf 9)) = some y2 := hf 2 _ rfl
    rw [show Try.prog.cellsOf 9 = 1 by kernel_rfl] at f2
    have f3 : DataW.trod enc Try.prog w base spare held n 36 ((cs.drop 3).take (Try.prog.cellsOf 36)) = some y3 := hf 3 _ rfl
    rw [show Try.prog.cellsOf 36 = 1 by kernel_rfl] at f3
    have f4 : DataW.trod enc Try.prog w base spare held n 30 ((cs.drop 4).take (Try.prog.cellsOf 30)) = some y4 := hf 4 _ rfl
    rw [show Try.prog.cellsOf 30 = 1 by kernel_rfl] at f4
    have f5 : DataW.trod enc Try.prog w base spare held n 37 ((cs.drop 5).take (Try.prog.cellsOf 37)) = some y5 := hf 5 _ rfl
    rw [show Try.prog.cellsOf 37 = 1 by kernel_rfl] at f5
    have f6 : DataW.trod enc Try.prog w base spare held n 38 ((cs.drop 6).take (Try.prog.cellsOf 38)) = some y6 := hf 6 _ rfl
    rw [show Try.prog.cellsOf 38 = 1 by kernel_rfl] at f6
    have f7 : DataW.trod enc Try.prog w base spare held n 3 ((cs.drop 7).take (Try.prog.cellsOf 3)) = some y7 := hf 7 _ rfl
    rw [show Try.prog.cellsOf 3 = 1 by kernel_rfl] at f7
    obtain ⟨a0, r0, o0, -⟩ := opens_int Try.underlying3 _ _ f0
    obtain ⟨a1, r1, o1, -⟩ := opens_int Try.underlying3 _ _ f1
    obtain ⟨a2, r2, o2, m2⟩ := opens_strz Try.underlying9 _ _ f2
    obtain ⟨a3, r3, o3, m3⟩ := opens_slice strTs (fun s => s.size + 1) 1 (by omega) (fun _ => rfl) Try.underlying36 cn_str (fun m _ => opens_strz Try.underlying9) _ _ f3
    obtain ⟨a4, r4, o4, m4⟩ := opens_slice Y.ts Y.size 3 (by omega) Y.ts_len Try.underlying30 cn_Y (fun m _ => opensY m) _ _ f4
    obtain ⟨a5, r5, o5, m5⟩ := opens_slice Ex.ts Ex.size 8 (by omega) Ex.ts_len Try.underlying37 cn_Ex (fun m hm => ih m (by omega)) _ _ f5
    obtain ⟨a6, r6, o6, m6⟩ := opens_slice Ar.ts Ar.size 12 (by omega) Ar.ts_len Try.underlying38 cn_Ar (fun m hm => opensAr (fun j hj => ih j (by omega))) _ _ f6
    obtain ⟨a7, r7, o7, -⟩ := opens_int Try.underlying3 _ _ f7
    refine ⟨.mk a0 a1 a2 a3 a4 a5 a6 a7, ?_, ?_, ?_⟩
    · have := rts_seg r0 (rts_seg r1 (rts_seg r2 (rts_seg r3 (rts_seg r4 (rts_seg r5 (rts_seg r6 (rts_seg r7 (rts_end hlen))))))))
      simpa [Ex.ts, Ex.all_eq, Ar.all_eq, Y.row, Y.all_eq, strRow] using this
    · have := one_seg o0 (one_seg o1 (one_seg o2 (one_seg o3 (one_seg o4 (one_seg o5 (one_seg o6 (one_seg o7 (one_end hlen))))))))
      simpa using this
    · simp only [Ex.size, strSize, Y.sizes_sum, Ex.sizes_sum, Ar.sizes_sum, List.map_cons, List.map_nil, Rows.uptoBulk, Rows.uptoBulkAll] at m2 m3 m4 m5 m6 ⊢
      omega
theorem cn_Us : Try.prog.cellsOf 162 = 3 := by kernel_rfl
theorem opensUs (fuel : Nat) : Opens enc Try.prog w base spare held 162 Us.ts Us.size fuel := by
  intro cs x h
  obtain ⟨ys, n, hn, rfl, hlen, hyl, hf⟩ := DataW.trod_struct Try.underlying162 h
  rw [cn_Us] at hlen
  obtain ⟨y0, y1, y2, rfl⟩ := listN3 hyl
  have f0 : DataW.trod enc Try.prog w base spare held n 9 ((cs.drop 0).take (Try.prog.cellsOf 9)) = some y0 := hf 0 _ rfl
  rw [show Try.prog.cellsOf 9 = 1 by kernel_rfl] at f0
  have f1 : DataW.trod enc Try.prog w base spare held n 3 ((cs.drop 1).take (Try.prog.cellsOf 3)) = some y1 := hf 1 _ rfl
  rw [show Try.prog.cellsOf 3 = 1 by kernel_rfl] at f1
  have f2 : DataW.trod enc Try.prog w base spare held n 3 ((cs.drop 2).take (Try.prog.cellsOf 3)) = some y2 := hf 2 _ rfl
  rw [show Try.prog.cellsOf 3 = 1 by kernel_rfl] at f2
  obtain ⟨a0, r0, o0, m0⟩ := opens_strz Try.underlying9 _ _ f0
  obtain ⟨a1, r1, o1, m1⟩ := opens_int Try.underlying3 _ _ f1
  obtain ⟨a2, r2, o2, m2⟩ := opens_int Try.underlying3 _ _ f2
  refine ⟨⟨a0, a1, a2⟩, ?_, ?_, ?_⟩
  · have := rts_seg r0 (rts_seg r1 (rts_seg r2 (rts_end hlen)))
    simpa [Us.ts] using this
  · have := one_seg o0 (one_seg o1 (one_seg o2 (one_end hlen)))
    simpa using this
  · simp only [Us.size, List.map_cons, List.map_nil, Rows.uptoBulk, Rows.uptoBulkAll] at m0 m1 m2 ⊢
    omega
theorem cn_Mk : Try.prog.cellsOf 68 = 2 := by kernel_rfl
theorem opensMk (fuel : Nat) : Opens enc Try.prog w base spare held 68 Mk.ts Mk.size fuel := by
  intro cs x h
  obtain ⟨ys, n, hn, rfl, hlen, hyl, hf⟩ := DataW.trod_struct Try.underlying68 h
  rw [cn_Mk] at hlen
  obtain ⟨y0, y1, rfl⟩ := listN2 hyl
  have f0 : DataW.trod enc Try.prog w base spare held n 9 ((cs.drop 0).take (Try.prog.cellsOf 9)) = some y0 := hf 0 _ rfl
  rw [show Try.prog.cellsOf 9 = 1 by kernel_rfl] at f0
  have f1 : DataW.trod enc Try.prog w base spare held n 30 ((cs.drop 1).take (Try.prog.cellsOf 30)) = some y1 := hf 1 _ rfl
  rw [show Try.prog.cellsOf 30 = 1 by kernel_rfl] at f1
  obtain ⟨a0, r0, o0, m0⟩ := opens_strz Try.underlying9 _ _ f0
  obtain ⟨a1, r1, o1, m1⟩ := opens_slice Y.ts Y.size 3 (by omega) Y.ts_len Try.underlying30 cn_Y (fun m _ => opensY m) _ _ f1
  refine ⟨⟨a0, a1⟩, ?_, ?_, ?_⟩
  · have := rts_seg r0 (rts_seg r1 (rts_end hlen))
    simpa [Mk.ts, Y.all_eq, Y.row] using this
  · have := one_seg o0 (one_seg o1 (one_end hlen))
    simpa using this
  · simp only [Mk.size, Y.sizes_sum, List.map_cons, List.map_nil, Rows.uptoBulk, Rows.uptoBulkAll] at m0 m1 ⊢
    omega
theorem cn_Da : Try.prog.cellsOf 66 = 3 := by kernel_rfl
theorem opensDa (fuel : Nat) : Opens enc Try.prog w base spare held 66 Da.ts Da.size fuel := by
  intro cs x h
  obtain ⟨ys, n, hn, rfl, hlen, hyl, hf⟩ := DataW.trod_struct Try.underlying66 h
  rw [cn_Da] at hlen
  obtain ⟨y0, y1, y2, rfl⟩ := listN3 hyl
  have f0 : DataW.trod enc Try.prog w base spare held n 9 ((cs.drop 0).take (Try.prog.cellsOf 9)) = some y0 := hf 0 _ rfl
  rw [show Try.prog.cellsOf 9 = 1 by kernel_rfl] at f0
  have f1 : DataW.trod enc Try.prog w base spare held n 36 ((cs.drop 1).take (Try.prog.cellsOf 36)) = some y1 := hf 1 _ rfl
  rw [show Try.prog.cellsOf 36 = 1 by kernel_rfl] at f1
  have f2 : DataW.trod enc Try.prog w base spare held n 64 ((cs.drop 2).take (Try.prog.cellsOf 64)) = some y2 := hf 2 _ rfl
  rw [show Try.prog.cellsOf 64 = 1 by kernel_rfl] at f2
  obtain ⟨a0, r0, o0, m0⟩ := opens_strz Try.underlying9 _ _ f0
  obtain ⟨a1, r1, o1, m1⟩ := opens_slice strTs (fun s => s.size + 1) 1 (by omega) (fun _ => rfl) Try.underlying36 cn_str (fun m _ => opens_strz Try.underlying9) _ _ f1
  obtain ⟨a2, r2, o2, m2⟩ := opens_slice Mk.ts Mk.size 2 (by omega) Mk.ts_len Try.underlying64 cn_Mk (fun m _ => opensMk m) _ _ f2
  refine ⟨⟨a0, a1, a2⟩, ?_, ?_, ?_⟩
  · have := rts_seg r0 (rts_seg r1 (rts_seg r2 (rts_end hlen)))
    simpa [Da.ts, Mk.row, strRow] using this
  · have := one_seg o0 (one_seg o1 (one_seg o2 (one_end hlen)))
    simpa using this
  · simp only [Da.size, Mk.sizes, strSize, List.map_cons, List.map_nil, Rows.uptoBulk, Rows.uptoBulkAll] at m0 m1 m2 ⊢
    omega
theorem cn_Fu : Try.prog.cellsOf 101 = 15 := by kernel_rfl
theorem opensFu (fuel : Nat) : Opens enc Try.prog w base spare held 101 Fu.ts Fu.size fuel := by
  intro cs x h
  obtain ⟨ys, n, hn, rfl, hlen, hyl, hf⟩ := DataW.trod_struct Try.underlying101 h
  rw [cn_Fu] at hlen
  obtain ⟨y0, y1, y2, y3, y4, y5, rfl⟩ := listN6 hyl
  have f0 : DataW.trod enc Try.prog w base spare held n 9 ((cs.drop 0).take (Try.prog.cellsOf 9)) = some y0 := hf 0 _ rfl
  rw [show Try.prog.cellsOf 9 = 1 by kernel_rfl] at f0
  have f1 : DataW.trod enc Try.prog w base spare held n 36 ((cs.drop 1).take (Try.prog.cellsOf 36)) = some y1 := hf 1 _ rfl
  rw [show Try.prog.cellsOf 36 = 1 by kernel_rfl] at f1
  have f2 : DataW.trod enc Try.prog w base spare held n 36 ((cs.drop 2).take (Try.prog.cellsOf 36)) = some y2 := hf 2 _ rfl
  rw [show Try.prog.cellsOf 36 = 1 by kernel_rfl] at f2
  have f3 : DataW.trod enc Try.prog w base spare held n 30 ((cs.drop 3).take (Try.prog.cellsOf 30)) = some y3 := hf 3 _ rfl
  rw [show Try.prog.cellsOf 30 = 1 by kernel_rfl] at f3
  have f4 : DataW.trod enc Try.prog w base spare held n 32 ((cs.drop 4).take (Try.prog.cellsOf 32)) = some y4 := hf 4 _ rfl
  rw [show Try.prog.cellsOf 32 = 3 by kernel_rfl] at f4
  have f5 : DataW.trod enc Try.prog w base spare held n 40 ((cs.drop 7).take (Try.prog.cellsOf 40)) = some y5 := hf 5 _ rfl
  rw [show Try.prog.cellsOf 40 = 8 by kernel_rfl] at f5
  obtain ⟨a0, r0, o0, m0⟩ := opens_strz Try.underlying9 _ _ f0
  obtain ⟨a1, r1, o1, m1⟩ := opens_slice strTs (fun s => s.size + 1) 1 (by omega) (fun _ => rfl) Try.underlying36 cn_str (fun m _ => opens_strz Try.underlying9) _ _ f1
  obtain ⟨a2, r2, o2, m2⟩ := opens_slice strTs (fun s => s.size + 1) 1 (by omega) (fun _ => rfl) Try.underlying36 cn_str (fun m _ => opens_strz Try.underlying9) _ _ f2
  obtain ⟨a3, r3, o3, m3⟩ := opens_slice Y.ts Y.size 3 (by omega) Y.ts_len Try.underlying30 cn_Y (fun m _ => opensY m) _ _ f3
  obtain ⟨a4, r4, o4, m4⟩ := opensY _ _ _ f4
  obtain ⟨a5, r5, o5, m5⟩ := opensEx _ _ _ f5
  refine ⟨⟨a0, a1, a2, a3, a4, a5⟩, ?_, ?_, ?_⟩
  · have := rts_seg r0 (rts_seg r1 (rts_seg r2 (rts_seg r3 (rts_seg r4 (rts_seg r5 (rts_end hlen))))))
    simpa [Fu.ts, Y.all_eq, Y.row, strRow] using this
  · have := one_seg o0 (one_seg o1 (one_seg o2 (one_seg o3 (one_seg o4 (one_seg o5 (one_end hlen))))))
    simpa using this
  · simp only [Fu.size, Y.sizes_sum, strSize, List.map_cons, List.map_nil, Rows.uptoBulk, Rows.uptoBulkAll] at m0 m1 m2 m3 m4 m5 ⊢
    omega
theorem cn_Tr : Try.prog.cellsOf 70 = 2 := by kernel_rfl
theorem opensTr (fuel : Nat) : Opens enc Try.prog w base spare held 70 Tr.ts Tr.size fuel := by
  intro cs x h
  obtain ⟨ys, n, hn, rfl, hlen, hyl, hf⟩ := DataW.trod_struct Try.underlying70 h
  rw [cn_Tr] at hlen
  obtain ⟨y0, y1, rfl⟩ := listN2 hyl
  have f0 : DataW.trod enc Try.prog w base spare held n 9 ((cs.drop 0).take (Try.prog.cellsOf 9)) = some y0 := hf 0 _ rfl
  rw [show Try.prog.cellsOf 9 = 1 by kernel_rfl] at f0
  have f1 : DataW.trod enc Try.prog w base spare held n 26 ((cs.drop 1).take (Try.prog.cellsOf 26)) = some y1 := hf 1 _ rfl
  rw [show Try.prog.cellsOf 26 = 1 by kernel_rfl] at f1
  obtain ⟨a0, r0, o0, m0⟩ := opens_strz Try.underlying9 _ _ f0
  obtain ⟨a1, r1, o1, m1⟩ := opens_slice Fu.ts Fu.size 15 (by omega) Fu.ts_len Try.underlying26 cn_Fu (fun m _ => opensFu m) _ _ f1
  refine ⟨⟨a0, a1⟩, ?_, ?_, ?_⟩
  · have := rts_seg r0 (rts_seg r1 (rts_end hlen))
    simpa [Tr.ts, Fu.row] using this
  · have := one_seg o0 (one_seg o1 (one_end hlen))
    simpa using this
  · simp only [Tr.size, Fu.sizes, List.map_cons, List.map_nil, Rows.uptoBulk, Rows.uptoBulkAll] at m0 m1 ⊢
    omega
theorem cn_Im : Try.prog.cellsOf 72 = 3 := by kernel_rfl
theorem opensIm (fuel : Nat) : Opens enc Try.prog w base spare held 72 Im.ts Im.size fuel := by
  intro cs x h
  obtain ⟨ys, n, hn, rfl, hlen, hyl, hf⟩ := DataW.trod_struct Try.underlying72 h
  rw [cn_Im] at hlen
  obtain ⟨y0, y1, y2, rfl⟩ := listN3 hyl
  have f0 : DataW.trod enc Try.prog w base spare held n 9 ((cs.drop 0).take (Try.prog.cellsOf 9)) = some y0 := hf 0 _ rfl
  rw [show Try.prog.cellsOf 9 = 1 by kernel_rfl] at f0
  have f1 : DataW.trod enc Try.prog w base spare held n 9 ((cs.drop 1).take (Try.prog.cellsOf 9)) = some y1 := hf 1 _ rfl
  rw [show Try.prog.cellsOf 9 = 1 by kernel_rfl] at f1
  have f2 : DataW.trod enc Try.prog w base spare held n 26 ((cs.drop 2).take (Try.prog.cellsOf 26)) = some y2 := hf 2 _ rfl
  rw [show Try.prog.cellsOf 26 = 1 by kernel_rfl] at f2
  obtain ⟨a0, r0, o0, m0⟩ := opens_strz Try.underlying9 _ _ f0
  obtain ⟨a1, r1, o1, m1⟩ := opens_strz Try.underlying9 _ _ f1
  obtain ⟨a2, r2, o2, m2⟩ := opens_slice Fu.ts Fu.size 15 (by omega) Fu.ts_len Try.underlying26 cn_Fu (fun m _ => opensFu m) _ _ f2
  refine ⟨⟨a0, a1, a2⟩, ?_, ?_, ?_⟩
  · have := rts_seg r0 (rts_seg r1 (rts_seg r2 (rts_end hlen)))
    simpa [Im.ts, Fu.row] using this
  · have := one_seg o0 (one_seg o1 (one_seg o2 (one_end hlen)))
    simpa using this
  · simp only [Im.size, Fu.sizes, List.map_cons, List.map_nil, Rows.uptoBulk, Rows.uptoBulkAll] at m0 m1 m2 ⊢
    omega
theorem cn_Ac : Try.prog.cellsOf 42 = 14 := by kernel_rfl
theorem opensAc (fuel : Nat) : Opens enc Try.prog w base spare held 42 Ac.ts Ac.size fuel := by
  intro cs x h
  obtain ⟨ys, n, hn, rfl, hlen, hyl, hf⟩ := DataW.trod_struct Try.underlying42 h
  rw [cn_Ac] at hlen
  obtain ⟨y0, y1, y2, y3, y4, rfl⟩ := listN5 hyl
  have f0 : DataW.trod enc Try.prog w base spare held n 9 ((cs.drop 0).take (Try.prog.cellsOf 9)) = some y0 := hf 0 _ rfl
  rw [show Try.prog.cellsOf 9 = 1 by kernel_rfl] at f0
  have f1 : DataW.trod enc Try.prog w base spare held n 36 ((cs.drop 1).take (Try.prog.cellsOf 36)) = some y1 := hf 1 _ rfl
  rw [show Try.prog.cellsOf 36 = 1 by kernel_rfl] at f1
  have f2 : DataW.trod enc Try.prog w base spare held n 30 ((cs.drop 2).take (Try.prog.cellsOf 30)) = some y2 := hf 2 _ rfl
  rw [show Try.prog.cellsOf 30 = 1 by kernel_rfl] at f2
  have f3 : DataW.trod enc Try.prog w base spare held n 32 ((cs.drop 3).take (Try.prog.cellsOf 32)) = some y3 := hf 3 _ rfl
  rw [show Try.prog.cellsOf 32 = 3 by kernel_rfl] at f3
  have f4 : DataW.trod enc Try.prog w base spare held n 40 ((cs.drop 6).take (Try.prog.cellsOf 40)) = some y4 := hf 4 _ rfl
  rw [show Try.prog.cellsOf 40 = 8 by kernel_rfl] at f4
  obtain ⟨a0, r0, o0, m0⟩ := opens_strz Try.underlying9 _ _ f0
  obtain ⟨a1, r1, o1, m1⟩ := opens_slice strTs (fun s => s.size + 1) 1 (by omega) (fun _ => rfl) Try.underlying36 cn_str (fun m _ => opens_strz Try.underlying9) _ _ f1
  obtain ⟨a2, r2, o2, m2⟩ := opens_slice Y.ts Y.size 3 (by omega) Y.ts_len Try.underlying30 cn_Y (fun m _ => opensY m) _ _ f2
  obtain ⟨a3, r3, o3, m3⟩ := opensY _ _ _ f3
  obtain ⟨a4, r4, o4, m4⟩ := opensEx _ _ _ f4
  refine ⟨⟨a0, a1, a2, a3, a4⟩, ?_, ?_, ?_⟩
  · have := rts_seg r0 (rts_seg r1 (rts_seg r2 (rts_seg r3 (rts_seg r4 (rts_end hlen)))))
    simpa [Ac.ts, Y.all_eq, Y.row, strRow] using this
  · have := one_seg o0 (one_seg o1 (one_seg o2 (one_seg o3 (one_seg o4 (one_end hlen)))))
    simpa using this
  · simp only [Ac.size, Y.sizes_sum, strSize, List.map_cons, List.map_nil, Rows.uptoBulk, Rows.uptoBulkAll] at m0 m1 m2 m3 m4 ⊢
    omega
theorem cn_Pr : Try.prog.cellsOf 29 = 8 := by kernel_rfl
theorem opensPr (fuel : Nat) : Opens enc Try.prog w base spare held 29 Pr.ts Pr.size fuel := by
  intro cs x h
  obtain ⟨ys, n, hn, rfl, hlen, hyl, hf⟩ := DataW.trod_struct Try.underlying29 h
  rw [cn_Pr] at hlen
  obtain ⟨y0, y1, y2, y3, y4, y5, y6, y7, rfl⟩ := listN8 hyl
  have f0 : DataW.trod enc Try.prog w base spare held n 9 ((cs.drop 0).take (Try.prog.cellsOf 9)) = some y0 := hf 0 _ rfl
  rw [show Try.prog.cellsOf 9 = 1 by kernel_rfl] at f0
  have f1 : DataW.trod enc Try.prog w base spare held n 3 ((cs.drop 1).take (Try.prog.cellsOf 3)) = some y1 := hf 1 _ rfl
  rw [show Try.prog.cellsOf 3 = 1 by kernel_rfl] at f1
  have f2 : DataW.trod enc Try.prog w base spare held n 22 ((cs.drop 2).take (Try.prog.cellsOf 22)) = some y2 := hf 2 _ rfl
  rw [show Try.prog.cellsOf 22 = 1 by kernel_rfl] at f2
  have f3 : DataW.trod enc Try.prog w base spare held n 23 ((cs.drop 3).take (Try.prog.cellsOf 23)) = some y3 := hf 3 _ rfl
  rw [show Try.prog.cellsOf 23 = 1 by kernel_rfl] at f3
  have f4 : DataW.trod enc Try.prog w base spare held n 24 ((cs.drop 4).take (Try.prog.cellsOf 24)) = some y4 := hf 4 _ rfl
  rw [show Try.prog.cellsOf 24 = 1 by kernel_rfl] at f4
  have f5 : DataW.trod enc Try.prog w base spare held n 25 ((cs.drop 5).take (Try.prog.cellsOf 25)) = some y5 := hf 5 _ rfl
  rw [show Try.prog.cellsOf 25 = 1 by kernel_rfl] at f5
  have f6 : DataW.trod enc Try.prog w base spare held n 26 ((cs.drop 6).take (Try.prog.cellsOf 26)) = some y6 := hf 6 _ rfl
  rw [show Try.prog.cellsOf 26 = 1 by kernel_rfl] at f6
  have f7 : DataW.trod enc Try.prog w base spare held n 27 ((cs.drop 7).take (Try.prog.cellsOf 27)) = some y7 := hf 7 _ rfl
  rw [show Try.prog.cellsOf 27 = 1 by kernel_rfl] at f7
  obtain ⟨a0, r0, o0, m0⟩ := opens_strz Try.underlying9 _ _ f0
  obtain ⟨a1, r1, o1, m1⟩ := opens_int Try.underlying3 _ _ f1
  obtain ⟨a2, r2, o2, m2⟩ := opens_slice Us.ts Us.size 3 (by omega) Us.ts_len Try.underlying22 cn_Us (fun m _ => opensUs m) _ _ f2
  obtain ⟨a3, r3, o3, m3⟩ := opens_slice Da.ts Da.size 3 (by omega) Da.ts_len Try.underlying23 cn_Da (fun m _ => opensDa m) _ _ f3
  obtain ⟨a4, r4, o4, m4⟩ := opens_slice Tr.ts Tr.size 2 (by omega) Tr.ts_len Try.underlying24 cn_Tr (fun m _ => opensTr m) _ _ f4
  obtain ⟨a5, r5, o5, m5⟩ := opens_slice Im.ts Im.size 3 (by omega) Im.ts_len Try.underlying25 cn_Im (fun m _ => opensIm m) _ _ f5
  obtain ⟨a6, r6, o6, m6⟩ := opens_slice Fu.ts Fu.size 15 (by omega) Fu.ts_len Try.underlying26 cn_Fu (fun m _ => opensFu m) _ _ f6
  obtain ⟨a7, r7, o7, m7⟩ := opens_slice Ac.ts Ac.size 14 (by omega) Ac.ts_len Try.underlying27 cn_Ac (fun m _ => opensAc m) _ _ f7
  refine ⟨⟨a0, a1, a2, a3, a4, a5, a6, a7⟩, ?_, ?_, ?_⟩
  · have := rts_seg r0 (rts_seg r1 (rts_seg r2 (rts_seg r3 (rts_seg r4 (rts_seg r5 (rts_seg r6 (rts_seg r7 (rts_end hlen))))))))
    simpa [Pr.ts, Ac.row, Da.row, Fu.row, Im.row, Tr.row, Us.row] using this
  · have := one_seg o0 (one_seg o1 (one_seg o2 (one_seg o3 (one_seg o4 (one_seg o5 (one_seg o6 (one_seg o7 (one_end hlen))))))))
    simpa using this
  · simp only [Pr.size, Ac.sizes, Da.sizes, Fu.sizes, Im.sizes, Tr.sizes, Us.sizes, List.map_cons, List.map_nil, Rows.uptoBulk, Rows.uptoBulkAll] at m0 m1 m2 m3 m4 m5 m6 m7 ⊢
    omega
end
end Go.Proofs.Ytmdmgpnaiknlaaa
