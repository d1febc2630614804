/-
  Texts of this proof, part 21: OpenS OpenP OpenU.
-/
import Derived.Test.YthgackidonocpaaGreatQStoreLast20
import Derived.MapKept
namespace Go.Proofs.YthgackidonocpaaGreat
open Go.ChangeShapes Go.WideShapes Go.ChangeAt Go.RowKit Go.Deep
theorem listQ2 {α : Type} {l : List α} (h : l.length = 2) : ∃ a b, l = [a, b] := match l, h with | [a, b], _ => ⟨a, b, rfl⟩
theorem listQ3 {α : Type} {l : List α} (h : l.length = 3) : ∃ a b c, l = [a, b, c] := match l, h with | [a, b, c], _ => ⟨a, b, c, rfl⟩
theorem listQ6 {α : Type} {l : List α} (h : l.length = 6) : ∃ a b c d e f, l = [a, b, c, d, e, f] := match l, h with | [a, b, c, d, e, f], _ => ⟨a, b, c, d, e, f, rfl⟩
instance : Inhabited Inp := ⟨⟨0, V.zero⟩⟩
def Inp.mass (x : Inp) : Nat := far x.kind + x.val.mass
def Sav.cells (s : Sav) : List T := [.lit (.string s.actor), V.row s.state, inpRow s.inputs]
def Sav.mass (s : Sav) : Nat := s.actor.size + ((s.state.map V.mass).sum + (s.inputs.map Inp.mass).sum)
section
variable {H : Type} {enc : TypeId × Value → H} {w : World} {base : Nat} {spare : Nat → Bool} {held : Bool}
theorem cn_inp : Tryz.prog.cellsOf 122 = 5 := by kernel_rfl
theorem cn_inps : Tryz.prog.cellsOf 47 = 1 := by kernel_rfl
theorem cn_sav : Tryz.prog.cellsOf 49 = 3 := by kernel_rfl
theorem opensInp (fuel : Nat) : Opens enc Tryz.prog w base spare held 122 Inp.ts Inp.mass fuel := by
  intro cs x h
  obtain ⟨ys, n, hn, rfl, hlen, hyl, hf⟩ := DataW.trod_struct Tryz.underlying122 h
  rw [cn_inp] at hlen
  obtain ⟨y0, y1, rfl⟩ := listQ2 hyl
  have f0 : DataW.trod enc Tryz.prog w base spare held n 3 ((cs.drop 0).take (Tryz.prog.cellsOf 3)) = some y0 := hf 0 _ rfl
  rw [cn_int] at f0
  have f1 : DataW.trod enc Tryz.prog w base spare held n 61 ((cs.drop 1).take (Tryz.prog.cellsOf 61)) = some y1 := hf 1 _ rfl
  rw [cn_val] at f1
  obtain ⟨a0, r0, o0, m0⟩ := opens_far Tryz.underlying3 _ _ f0
  obtain ⟨a1, r1, o1, m1⟩ := opensV _ _ _ f1
  refine ⟨⟨a0, a1⟩, ?_, ?_, ?_⟩
  · have := rts_seg r0 (rts_seg r1 (rts_end hlen))
    simpa [Inp.ts, Inp.mass] using this
  · have := one_seg o0 (one_seg o1 (one_end hlen))
    simpa using this
  · simp only [Inp.ts, Inp.mass, List.map_cons, List.map_nil, Rows.uptoBulk, Rows.uptoBulkAll] at m0 m1 ⊢
    omega
theorem opensVs (fuel : Nat) : Opens enc Tryz.prog w base spare held 46 (fun l : List V => [V.row l]) (fun l => (l.map V.mass).sum + 1) fuel := by
  intro cs x h
  obtain ⟨l, h1, h2, h3⟩ := opens_slice V.ts V.mass 4 (by omega) V.ts_len Tryz.underlying46 cn_val (fun m _ => opensV m) cs x h
  exact ⟨l, by simpa [V.row, V.all_eq] using h1, h2, h3⟩
theorem opensIs (fuel : Nat) : Opens enc Tryz.prog w base spare held 47 (fun l : List Inp => [inpRow l]) (fun l => (l.map Inp.mass).sum + 1) fuel := by
  intro cs x h
  obtain ⟨l, h1, h2, h3⟩ := opens_slice Inp.ts Inp.mass 5 (by omega) Inp.ts_len Tryz.underlying47 cn_inp (fun m _ => opensInp m) cs x h
  exact ⟨l, by simpa [inpRow] using h1, h2, h3⟩
theorem opensSav (fuel : Nat) : Opens enc Tryz.prog w base spare held 49 Sav.cells Sav.mass fuel := by
  intro cs x h
  obtain ⟨ys, n, hn, rfl, hlen, hyl, hf⟩ := DataW.trod_struct Tryz.underlying49 h
  rw [cn_sav] at hlen
  obtain ⟨y0, y1, y2, rfl⟩ := listQ3 hyl
  have f0 : DataW.trod enc Tryz.prog w base spare held n 9 ((cs.drop 0).take (Tryz.prog.cellsOf 9)) = some y0 := hf 0 _ rfl
  rw [cn_str] at f0
  have f1 : DataW.trod enc Tryz.prog w base spare held n 46 ((cs.drop 1).take (Tryz.prog.cellsOf 46)) = some y1 := hf 1 _ rfl
  rw [cn_vals] at f1
  have f2 : DataW.trod enc Tryz.prog w base spare held n 47 ((cs.drop 2).take (Tryz.prog.cellsOf 47)) = some y2 := hf 2 _ rfl
  rw [cn_inps] at f2
  obtain ⟨a0, r0, o0, m0⟩ := opens_strz Tryz.underlying9 _ _ f0
  obtain ⟨a1, r1, o1, m1⟩ := opensVs _ _ _ f1
  obtain ⟨a2, r2, o2, m2⟩ := opensIs _ _ _ f2
  refine ⟨⟨a0, a1, a2⟩, ?_, ?_, ?_⟩
  · have := rts_seg r0 (rts_seg r1 (rts_seg r2 (rts_end hlen)))
    simpa [Sav.cells, Sav.mass] using this
  · have := one_seg o0 (one_seg o1 (one_seg o2 (one_end hlen)))
    simpa using this
  · simp only [Sav.cells, Sav.mass, List.map_cons, List.map_nil, Rows.uptoBulk, Rows.uptoBulkAll] at m0 m1 m2 ⊢
    omega
end
theorem sum_mem {α : Type} (f : α → Nat) : ∀ {l : List α} {x : α}, x ∈ l → f x ≤ (l.map f).sum
  | a :: l, x, h => by
    rcases List.mem_cons.1 h with rfl | h
    · simp only [List.map_cons, List.sum_cons]; omega
    · have := sum_mem f h; simp only [List.map_cons, List.sum_cons]; omega
theorem V.mass_tiny {v : V} (h : v.mass ≤ 1048576) : v.tiny := by
  obtain ⟨h1, h2⟩ := V.mass_ok v h
  have h3 := V.bytes_len v h1 (by omega) (by omega)
  exact ⟨h1, by omega, by omega⟩
theorem V.mass_pos (v : V) : 1 ≤ v.mass := by
  obtain ⟨k, n, t, l⟩ := v
  have := far_pos k
  simp only [V.mass]; omega
theorem sum_pos {α : Type} (f : α → Nat) (hf : ∀ x, 1 ≤ f x) : ∀ l : List α, l.length ≤ (l.map f).sum
  | [] => by simp
  | a :: l => by have := sum_pos f hf l; have := hf a; simp only [List.map_cons, List.sum_cons, List.length_cons]; omega
theorem Sav.mass_ok (s : Sav) (h : s.mass ≤ 1048576) : s.Small ∧ s.state.length ≤ 1048576 := by
  simp only [Sav.mass] at h
  have h1 := sum_pos V.mass V.mass_pos s.state
  refine ⟨⟨fun v hv => V.mass_tiny (by have := sum_mem V.mass hv; omega), fun x hx => V.mass_tiny (by have := sum_mem Inp.mass hx; simp only [Inp.mass] at this; omega), by omega⟩, by omega⟩
end Go.Proofs.YthgackidonocpaaGreat
namespace Go.Proofs.YthgackidonocpaaGreat
open Go.ChangeShapes Go.WideShapes Go.ChangeAt Go.RowKit Go.Deep
instance : Inhabited Lt := ⟨Lt.zero⟩
def Lt.mass : Lt → Nat
  | .mk k fm tt n t v => far k + far fm + far tt + far n + t.size + v.mass
theorem Lt.mass_tiny {x : Lt} (h : x.mass ≤ 1048576) : x.tiny := by
  obtain ⟨k, fm, tt, n, t, v⟩ := x
  simp only [Lt.mass] at h
  exact Lt.tiny_of (far_in (by omega)) (far_in (by omega)) (far_in (by omega)) (by omega) (V.mass_tiny (by omega))
def Par.mass (p : Par) : Nat := far p.ref + (p.sav.mass + ((p.box.map Lt.mass).sum + (far p.ticks + ((p.wat.map far).sum + (p.lnk.map far).sum))))
section
variable {H : Type} {enc : TypeId × Value → H} {w : World} {base : Nat} {spare : Nat → Bool} {held : Bool}
theorem cn_let : Tryz.prog.cellsOf 63 = 9 := by kernel_rfl
theorem cn_lets : Tryz.prog.cellsOf 50 = 1 := by kernel_rfl
theorem cn_ints : Tryz.prog.cellsOf 51 = 1 := by kernel_rfl
theorem cn_par : Tryz.prog.cellsOf 53 = 8 := by kernel_rfl
theorem opensL (fuel : Nat) : Opens enc Tryz.prog w base spare held 63 Lt.ts Lt.mass fuel := by
  intro cs x h
  obtain ⟨ys, n, hn, rfl, hlen, hyl, hf⟩ := DataW.trod_struct Tryz.underlying63 h
  rw [cn_let] at hlen
  obtain ⟨y0, y1, y2, y3, y4, y5, rfl⟩ := listQ6 hyl
  have f0 : DataW.trod enc Tryz.prog w base spare held n 3 ((cs.drop 0).take (Tryz.prog.cellsOf 3)) = some y0 := hf 0 _ rfl
  rw [cn_int] at f0
  have f1 : DataW.trod enc Tryz.prog w base spare held n 3 ((cs.drop 1).take (Tryz.prog.cellsOf 3)) = some y1 := hf 1 _ rfl
  rw [cn_int] at f1
  have f2 : DataW.trod enc Tryz.prog w base spare held n 3 ((cs.drop 2).take (Tryz.prog.cellsOf 3)) = some y2 := hf 2 _ rfl
  rw [cn_int] at f2
  have f3 : DataW.trod enc Tryz.prog w base spare held n 3 ((cs.drop 3).take (Tryz.prog.cellsOf 3)) = some y3 := hf 3 _ rfl
  rw [cn_int] at f3
  have f4 : DataW.trod enc Tryz.prog w base spare held n 9 ((cs.drop 4).take (Tryz.prog.cellsOf 9)) = some y4 := hf 4 _ rfl
  rw [cn_str] at f4
  have f5 : DataW.trod enc Tryz.prog w base spare held n 61 ((cs.drop 5).take (Tryz.prog.cellsOf 61)) = some y5 := hf 5 _ rfl
  rw [cn_val] at f5
  obtain ⟨a0, r0, o0, m0⟩ := opens_far Tryz.underlying3 _ _ f0
  obtain ⟨a1, r1, o1, m1⟩ := opens_far Tryz.underlying3 _ _ f1
  obtain ⟨a2, r2, o2, m2⟩ := opens_far Tryz.underlying3 _ _ f2
  obtain ⟨a3, r3, o3, m3⟩ := opens_far Tryz.underlying3 _ _ f3
  obtain ⟨a4, r4, o4, m4⟩ := opens_strz Tryz.underlying9 _ _ f4
  obtain ⟨a5, r5, o5, m5⟩ := opensV _ _ _ f5
  refine ⟨.mk a0 a1 a2 a3 a4 a5, ?_, ?_, ?_⟩
  · have := rts_seg r0 (rts_seg r1 (rts_seg r2 (rts_seg r3 (rts_seg r4 (rts_seg r5 (rts_end hlen))))))
    simpa [Lt.ts, Lt.mass] using this
  · have := one_seg o0 (one_seg o1 (one_seg o2 (one_seg o3 (one_seg o4 (one_seg o5 (one_end hlen))))))
    simpa using this
  · simp only [Lt.ts, Lt.mass, List.map_cons, List.map_nil, Rows.uptoBulk, Rows.uptoBulkAll] at m0 m1 m2 m3 m4 m5 ⊢
    omega
theorem opensLs (fuel : Nat) : Opens enc Tryz.prog w base spare held 50 (fun l : List Lt => [letRow l]) (fun l => (l.map Lt.mass).sum + 1) fuel := by
  intro cs x h
  obtain ⟨l, h1, h2, h3⟩ := opens_slice Lt.ts Lt.mass 9 (by omega) Lt.ts_len Tryz.underlying50 cn_let (fun m _ => opensL m) cs x h
  exact ⟨l, by simpa [letRow] using h1, h2, h3⟩
theorem opensNs (fuel : Nat) : Opens enc Tryz.prog w base spare held 51 (fun l : List Int => [intRow l]) (fun l => (l.map far).sum + 1) fuel := by
  intro cs x h
  obtain ⟨l, h1, h2, h3⟩ := opens_slice intTs far 1 (by omega) (fun _ => rfl) Tryz.underlying51 cn_int (fun m _ => opens_far Tryz.underlying3) cs x h
  exact ⟨l, by simpa [intRow] using h1, h2, h3⟩
theorem opensPar (fuel : Nat) : Opens enc Tryz.prog w base spare held 53 Par.ts Par.mass fuel := by
  intro cs x h
  obtain ⟨ys, n, hn, rfl, hlen, hyl, hf⟩ := DataW.trod_struct Tryz.underlying53 h
  rw [cn_par] at hlen
  obtain ⟨y0, y1, y2, y3, y4, y5, rfl⟩ := listQ6 hyl
  have f0 : DataW.trod enc Tryz.prog w base spare held n 3 ((cs.drop 0).take (Tryz.prog.cellsOf 3)) = some y0 := hf 0 _ rfl
  rw [cn_int] at f0
  have f1 : DataW.trod enc Tryz.prog w base spare held n 49 ((cs.drop 1).take (Tryz.prog.cellsOf 49)) = some y1 := hf 1 _ rfl
  rw [cn_sav] at f1
  have f2 : DataW.trod enc Tryz.prog w base spare held n 50 ((cs.drop 4).take (Tryz.prog.cellsOf 50)) = some y2 := hf 2 _ rfl
  rw [cn_lets] at f2
  have f3 : DataW.trod enc Tryz.prog w base spare held n 3 ((cs.drop 5).take (Tryz.prog.cellsOf 3)) = some y3 := hf 3 _ rfl
  rw [cn_int] at f3
  have f4 : DataW.trod enc Tryz.prog w base spare held n 51 ((cs.drop 6).take (Tryz.prog.cellsOf 51)) = some y4 := hf 4 _ rfl
  rw [cn_ints] at f4
  have f5 : DataW.trod enc Tryz.prog w base spare held n 51 ((cs.drop 7).take (Tryz.prog.cellsOf 51)) = some y5 := hf 5 _ rfl
  rw [cn_ints] at f5
  obtain ⟨a0, r0, o0, m0⟩ := opens_far Tryz.underlying3 _ _ f0
  obtain ⟨a1, r1, o1, m1⟩ := opensSav _ _ _ f1
  obtain ⟨a2, r2, o2, m2⟩ := opensLs _ _ _ f2
  obtain ⟨a3, r3, o3, m3⟩ := opens_far Tryz.underlying3 _ _ f3
  obtain ⟨a4, r4, o4, m4⟩ := opensNs _ _ _ f4
  obtain ⟨a5, r5, o5, m5⟩ := opensNs _ _ _ f5
  refine ⟨⟨a0, a1, a2, a3, a4, a5⟩, ?_, ?_, ?_⟩
  · have := rts_seg r0 (rts_seg r1 (rts_seg r2 (rts_seg r3 (rts_seg r4 (rts_seg r5 (rts_end hlen))))))
    simpa [Par.ts, Par.mass, Sav.cells] using this
  · have := one_seg o0 (one_seg o1 (one_seg o2 (one_seg o3 (one_seg o4 (one_seg o5 (one_end hlen))))))
    simpa using this
  · simp only [Par.ts, Par.mass, Sav.cells, List.map_cons, List.map_nil, Rows.uptoBulk, Rows.uptoBulkAll] at m0 m1 m2 m3 m4 m5 ⊢
    omega
end
theorem Par.mass_ok (p : Par) (h : p.mass ≤ 1048576) : p.Small ∧ p.sav.state.length ≤ 1048576 := by
  simp only [Par.mass] at h
  obtain ⟨h1, h2⟩ := Sav.mass_ok p.sav (by omega)
  refine ⟨⟨h1, fun x hx => Lt.mass_tiny (by have := sum_mem Lt.mass hx; omega), far_in (by omega), far_in (by omega), fun n hn => far_in (by have := sum_mem far hn; omega), fun n hn => far_in (by have := sum_mem far hn; omega)⟩, h2⟩
end Go.Proofs.YthgackidonocpaaGreat
namespace Go.Proofs.YthgackidonocpaaGreat
open Go.ChangeShapes Go.WideShapes Go.ChangeAt Go.RowKit Go.Deep
instance : Inhabited Par := ⟨Par.zero⟩
instance : Inhabited Wy := ⟨⟨0, 0, []⟩⟩
def Wy.mass (w : Wy) : Nat := far w.frm + (far w.to + (w.lets.map Lt.mass).sum)
def Snp.mass (s : Snp) : Nat := far s.time + ((s.pars.map Par.mass).sum + (s.ways.map Wy.mass).sum)
section
variable {H : Type} {enc : TypeId × Value → H} {w : World} {base : Nat} {spare : Nat → Bool} {held : Bool}
theorem cn_pars : Tryz.prog.cellsOf 23 = 1 := by kernel_rfl
theorem cn_way : Tryz.prog.cellsOf 57 = 3 := by kernel_rfl
theorem cn_ways : Tryz.prog.cellsOf 24 = 1 := by kernel_rfl
theorem cn_snp : Tryz.prog.cellsOf 26 = 3 := by kernel_rfl
theorem opensPs (fuel : Nat) : Opens enc Tryz.prog w base spare held 23 (fun l : List Par => [parRow l]) (fun l => (l.map Par.mass).sum + 1) fuel := by
  intro cs x h
  obtain ⟨l, h1, h2, h3⟩ := opens_slice Par.ts Par.mass 8 (by omega) Par.ts_len Tryz.underlying23 cn_par (fun m _ => opensPar m) cs x h
  exact ⟨l, by simpa [parRow] using h1, h2, h3⟩
theorem opensWy (fuel : Nat) : Opens enc Tryz.prog w base spare held 57 Wy.ts Wy.mass fuel := by
  intro cs x h
  obtain ⟨ys, n, hn, rfl, hlen, hyl, hf⟩ := DataW.trod_struct Tryz.underlying57 h
  rw [cn_way] at hlen
  obtain ⟨y0, y1, y2, rfl⟩ := listQ3 hyl
  have f0 : DataW.trod enc Tryz.prog w base spare held n 3 ((cs.drop 0).take (Tryz.prog.cellsOf 3)) = some y0 := hf 0 _ rfl
  rw [cn_int] at f0
  have f1 : DataW.trod enc Tryz.prog w base spare held n 3 ((cs.drop 1).take (Tryz.prog.cellsOf 3)) = some y1 := hf 1 _ rfl
  rw [cn_int] at f1
  have f2 : DataW.trod enc Tryz.prog w base spare held n 50 ((cs.drop 2).take (Tryz.prog.cellsOf 50)) = some y2 := hf 2 _ rfl
  rw [cn_lets] at f2
  obtain ⟨a0, r0, o0, m0⟩ := opens_far Tryz.underlying3 _ _ f0
  obtain ⟨a1, r1, o1, m1⟩ := opens_far Tryz.underlying3 _ _ f1
  obtain ⟨a2, r2, o2, m2⟩ := opensLs _ _ _ f2
  refine ⟨⟨a0, a1, a2⟩, ?_, ?_, ?_⟩
  · have := rts_seg r0 (rts_seg r1 (rts_seg r2 (rts_end hlen)))
    simpa [Wy.ts, Wy.mass] using this
  · have := one_seg o0 (one_seg o1 (one_seg o2 (one_end hlen)))
    simpa using this
  · simp only [Wy.ts, Wy.mass, List.map_cons, List.map_nil, Rows.uptoBulk, Rows.uptoBulkAll] at m0 m1 m2 ⊢
    omega
theorem opensWs (fuel : Nat) : Opens enc Tryz.prog w base spare held 24 (fun l : List Wy => [wayRow l]) (fun l => (l.map Wy.mass).sum + 1) fuel := by
  intro cs x h
  obtain ⟨l, h1, h2, h3⟩ := opens_slice Wy.ts Wy.mass 3 (by omega) Wy.ts_len Tryz.underlying24 cn_way (fun m _ => opensWy m) cs x h
  exact ⟨l, by simpa [wayRow] using h1, h2, h3⟩
theorem opensSnp (fuel : Nat) : Opens enc Tryz.prog w base spare held 26 Snp.ts Snp.mass fuel := by
  intro cs x h
  obtain ⟨ys, n, hn, rfl, hlen, hyl, hf⟩ := DataW.trod_struct Tryz.underlying26 h
  rw [cn_snp] at hlen
  obtain ⟨y0, y1, y2, rfl⟩ := listQ3 hyl
  have f0 : DataW.trod enc Tryz.prog w base spare held n 3 ((cs.drop 0).take (Tryz.prog.cellsOf 3)) = some y0 := hf 0 _ rfl
  rw [cn_int] at f0
  have f1 : DataW.trod enc Tryz.prog w base spare held n 23 ((cs.drop 1).take (Tryz.prog.cellsOf 23)) = some y1 := hf 1 _ rfl
  rw [cn_pars] at f1
  have f2 : DataW.trod enc Tryz.prog w base spare held n 24 ((cs.drop 2).take (Tryz.prog.cellsOf 24)) = some y2 := hf 2 _ rfl
  rw [cn_ways] at f2
  obtain ⟨a0, r0, o0, m0⟩ := opens_far Tryz.underlying3 _ _ f0
  obtain ⟨a1, r1, o1, m1⟩ := opensPs _ _ _ f1
  obtain ⟨a2, r2, o2, m2⟩ := opensWs _ _ _ f2
  refine ⟨⟨a0, a1, a2⟩, ?_, ?_, ?_⟩
  · have := rts_seg r0 (rts_seg r1 (rts_seg r2 (rts_end hlen)))
    simpa [Snp.ts, Snp.mass] using this
  · have := one_seg o0 (one_seg o1 (one_seg o2 (one_end hlen)))
    simpa using this
  · simp only [Snp.ts, Snp.mass, List.map_cons, List.map_nil, Rows.uptoBulk, Rows.uptoBulkAll] at m0 m1 m2 ⊢
    omega
end
theorem Snp.mass_ok (s : Snp) (h : s.mass ≤ 1048576) : s.Small := by
  simp only [Snp.mass] at h
  refine ⟨fun p hp => Par.mass_ok p (by have := sum_mem Par.mass hp; omega), fun w hw l hl => Lt.mass_tiny ?_, far_in (by omega)⟩
  have h1 := sum_mem Wy.mass hw
  have h2 := sum_mem Lt.mass hl
  simp only [Wy.mass] at h1
  omega
end Go.Proofs.YthgackidonocpaaGreat
