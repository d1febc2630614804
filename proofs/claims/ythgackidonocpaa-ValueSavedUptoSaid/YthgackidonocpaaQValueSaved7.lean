/-
  Texts of this proof, part 7: OpenV OpenS OpenB.
-/
import Derived.Test.YthgackidonocpaaQValueSaved6
import Derived.MapKept
namespace Go.Proofs.Ythgackidonocpaa
open Go.ChangeShapes Go.WideShapes Go.ChangeAt Go.RowKit Go.Deep
theorem listN4 {α : Type} {l : List α} (h : l.length = 4) : ∃ a b c d, l = [a, b, c, d] := match l, h with | [a, b, c, d], _ => ⟨a, b, c, d, rfl⟩
theorem rts_seg {M : Mm} {ts us : List T} {cs : List Value} {o c : Nat} (h : RTs M ts ((cs.drop o).take c)) (h' : RTs M us (cs.drop (o + c))) : RTs M (ts ++ us) (cs.drop o) := by
  have := h.app h'
  rwa [← List.drop_drop, List.take_append_drop] at this
theorem rts_end {M : Mm} {cs : List Value} {o : Nat} (h : cs.length = o) : RTs M [] (cs.drop o) := by rw [← h, List.drop_length]; simp [RTs]
theorem one_seg {cs : List Value} {o c : Nat} (h : OneAll ((cs.drop o).take c)) (h' : OneAll (cs.drop (o + c))) : OneAll (cs.drop o) := by
  have := h.app h'
  rwa [← List.drop_drop, List.take_append_drop] at this
theorem one_end {cs : List Value} {o : Nat} (h : cs.length = o) : OneAll (cs.drop o) := by rw [← h, List.drop_length]; intro x hx; simp at hx
instance (n : Int) : Decidable (inI n) := by unfold inI; infer_instance
instance : Inhabited V := ⟨.mk 0 0 ⟨#[]⟩ []⟩
/-- a number, heavy where it is out of range -/
def far (n : Int) : Nat := if inI n then 1 else 1099511627776
mutual
def V.mass : V → Nat
  | .mk k n t l => far k + far n + t.size + V.masses l
def V.masses : List V → Nat
  | [] => 0
  | v :: r => v.mass + V.masses r
end
theorem far_in {n : Int} (h : far n ≤ 1048576) : inI n := by
  unfold far at h
  split at h
  · assumption
  · omega
theorem far_pos (n : Int) : 1 ≤ far n := by unfold far; split <;> omega
mutual
theorem V.mass_ok : ∀ v : V, v.mass ≤ 1048576 → v.ok ∧ v.size + v.txt ≤ v.mass
  | .mk k n t l, h => by
    simp only [V.mass] at h
    have h1 := far_pos n
    have h4 := far_pos k
    have h2 := V.masses_ok l (by omega)
    have h3 : inI n := far_in (by omega)
    simp only [V.ok, V.size, V.txt, V.mass]
    exact ⟨⟨h3, h2.1⟩, by omega⟩
theorem V.masses_ok : ∀ l : List V, V.masses l ≤ 1048576 → V.oks l ∧ V.sizes l + V.txts l ≤ V.masses l
  | [], _ => by simp [V.oks, V.sizes, V.txts]
  | v :: l, h => by
    simp only [V.masses] at h
    have h1 := V.mass_ok v (by omega)
    have h2 := V.masses_ok l (by omega)
    simp only [V.oks, V.sizes, V.txts, V.masses]
    exact ⟨⟨h1.1, h2.1⟩, by omega⟩
end
theorem V.masses_sum : ∀ l : List V, V.masses l = (l.map V.mass).sum
  | [] => rfl
  | v :: l => by simp [V.masses, V.masses_sum l]
section
variable {H : Type} {enc : TypeId × Value → H} {P : Program} {w : World} {base : Nat} {spare : Nat → Bool} {held : Bool}
theorem opens_strz {t : TypeId} {fuel : Nat} (ht : P.underlying t = some .string) : Opens enc P w base spare held t (fun s : ByteArray => [.lit (.string s)]) (fun s => s.size + 1) fuel := by
  intro cs x h
  obtain ⟨i, rfl, rfl, _⟩ := DataW.trod_string ht h
  exact ⟨i, by simp [RTs, RT], fun u hu => by simp at hu; subst hu; rfl, by simp [Rows.uptoBulk]⟩
theorem opens_far {t : TypeId} {fuel : Nat} (ht : P.underlying t = some (.int .i64)) : Opens enc P w base spare held t (fun i : Int => [.lit (.int .i64 i)]) far fuel := by
  intro cs x h
  obtain ⟨i, rfl, rfl, hw⟩ := DataW.trod_int ht h
  have hin : inI i := by
    unfold inI
    simp [Lit.wf, IntKind.min, IntKind.max, IntKind.bits, IntKind.signed] at hw
    omega
  exact ⟨i, by simp [RTs, RT], fun u hu => by simp at hu; subst hu; rfl, by unfold far; rw [if_pos hin]; exact bulk_one _⟩
theorem cn_int : Try.prog.cellsOf 3 = 1 := by kernel_rfl
theorem cn_str : Try.prog.cellsOf 9 = 1 := by kernel_rfl
theorem cn_val : Try.prog.cellsOf 24 = 4 := by kernel_rfl
theorem cn_vals : Try.prog.cellsOf 22 = 1 := by kernel_rfl
theorem opensV : ∀ fuel, Opens enc Try.prog w base spare held 24 V.ts V.mass fuel := by
  intro fuel
  induction fuel using Nat.strongRecOn with
  | _ fuel ih =>
    intro cs x h
    obtain ⟨ys, n, hn, rfl, hlen, hyl, hf⟩ := DataW.trod_struct Try.underlying24 h
    rw [cn_val] at hlen
    obtain ⟨y0, y1, y2, y3, rfl⟩ := listN4 hyl
    have f0 : DataW.trod enc Try.prog w base spare held n 3 ((cs.drop 0).take (Try.prog.cellsOf 3)) = some y0 := hf 0 _ rfl
    have f1 : DataW.trod enc Try.prog w base spare held n 3 ((cs.drop 1).take (Try.prog.cellsOf 3)) = some y1 := hf 1 _ rfl
    have f2 : DataW.trod enc Try.prog w base spare held n 9 ((cs.drop 2).take (Try.prog.cellsOf 9)) = some y2 := hf 2 _ rfl
    have f3 : DataW.trod enc Try.prog w base spare held n 22 ((cs.drop 3).take (Try.prog.cellsOf 22)) = some y3 := hf 3 _ rfl
    rw [cn_int] at f0 f1
    rw [cn_str] at f2
    rw [cn_vals] at f3
    obtain ⟨a0, r0, o0, m0⟩ := opens_far Try.underlying3 _ _ f0
    obtain ⟨a1, r1, o1, m1⟩ := opens_far Try.underlying3 _ _ f1
    obtain ⟨a2, r2, o2, m2⟩ := opens_strz Try.underlying9 _ _ f2
    obtain ⟨a3, r3, o3, m3⟩ := opens_slice V.ts V.mass 4 (by omega) V.ts_len Try.underlying22 cn_val (fun m hm => ih m (by omega)) _ _ f3
    refine ⟨.mk a0 a1 a2 a3, ?_, ?_, ?_⟩
    · have := rts_seg r0 (rts_seg r1 (rts_seg r2 (rts_seg r3 (rts_end hlen))))
      simpa [V.ts, V.all_eq] using this
    · have := one_seg o0 (one_seg o1 (one_seg o2 (one_seg o3 (one_end hlen))))
      simpa using this
    · simp only [V.mass, V.masses_sum, List.map_cons, List.map_nil, Rows.uptoBulk, Rows.uptoBulkAll] at m0 m1 m2 m3 ⊢
      omega
end
end Go.Proofs.Ythgackidonocpaa
namespace Go.Proofs.Ythgackidonocpaa
open Go.ChangeShapes Go.WideShapes Go.ChangeAt Go.RowKit Go.Deep
theorem listQ2 {α : Type} {l : List α} (h : l.length = 2) : ∃ a b, l = [a, b] := match l, h with | [a, b], _ => ⟨a, b, rfl⟩
theorem listQ3 {α : Type} {l : List α} (h : l.length = 3) : ∃ a b c, l = [a, b, c] := match l, h with | [a, b, c], _ => ⟨a, b, c, rfl⟩
instance : Inhabited Inp := ⟨⟨0, V.zero⟩⟩
def Inp.mass (x : Inp) : Nat := far x.kind + x.val.mass
def Sav.cells (s : Sav) : List T := [.lit (.string s.actor), V.row s.state, inpRow s.inputs]
def Sav.mass (s : Sav) : Nat := s.actor.size + ((s.state.map V.mass).sum + (s.inputs.map Inp.mass).sum)
section
variable {H : Type} {enc : TypeId × Value → H} {w : World} {base : Nat} {spare : Nat → Bool} {held : Bool}
theorem cn_inp : Try.prog.cellsOf 163 = 5 := by kernel_rfl
theorem cn_inps : Try.prog.cellsOf 45 = 1 := by kernel_rfl
theorem cn_sav : Try.prog.cellsOf 47 = 3 := by kernel_rfl
theorem opensInp (fuel : Nat) : Opens enc Try.prog w base spare held 163 Inp.ts Inp.mass fuel := by
  intro cs x h
  obtain ⟨ys, n, hn, rfl, hlen, hyl, hf⟩ := DataW.trod_struct Try.underlying163 h
  rw [cn_inp] at hlen
  obtain ⟨y0, y1, rfl⟩ := listQ2 hyl
  have f0 : DataW.trod enc Try.prog w base spare held n 3 ((cs.drop 0).take (Try.prog.cellsOf 3)) = some y0 := hf 0 _ rfl
  rw [cn_int] at f0
  have f1 : DataW.trod enc Try.prog w base spare held n 24 ((cs.drop 1).take (Try.prog.cellsOf 24)) = some y1 := hf 1 _ rfl
  rw [cn_val] at f1
  obtain ⟨a0, r0, o0, m0⟩ := opens_far Try.underlying3 _ _ f0
  obtain ⟨a1, r1, o1, m1⟩ := opensV _ _ _ f1
  refine ⟨⟨a0, a1⟩, ?_, ?_, ?_⟩
  · have := rts_seg r0 (rts_seg r1 (rts_end hlen))
    simpa [Inp.ts, Inp.mass] using this
  · have := one_seg o0 (one_seg o1 (one_end hlen))
    simpa using this
  · simp only [Inp.ts, Inp.mass, List.map_cons, List.map_nil, Rows.uptoBulk, Rows.uptoBulkAll] at m0 m1 ⊢
    omega
theorem opensVs (fuel : Nat) : Opens enc Try.prog w base spare held 22 (fun l : List V => [V.row l]) (fun l => (l.map V.mass).sum + 1) fuel := by
  intro cs x h
  obtain ⟨l, h1, h2, h3⟩ := opens_slice V.ts V.mass 4 (by omega) V.ts_len Try.underlying22 cn_val (fun m _ => opensV m) cs x h
  exact ⟨l, by simpa [V.row, V.all_eq] using h1, h2, h3⟩
theorem opensIs (fuel : Nat) : Opens enc Try.prog w base spare held 45 (fun l : List Inp => [inpRow l]) (fun l => (l.map Inp.mass).sum + 1) fuel := by
  intro cs x h
  obtain ⟨l, h1, h2, h3⟩ := opens_slice Inp.ts Inp.mass 5 (by omega) Inp.ts_len Try.underlying45 cn_inp (fun m _ => opensInp m) cs x h
  exact ⟨l, by simpa [inpRow] using h1, h2, h3⟩
theorem opensSav (fuel : Nat) : Opens enc Try.prog w base spare held 47 Sav.cells Sav.mass fuel := by
  intro cs x h
  obtain ⟨ys, n, hn, rfl, hlen, hyl, hf⟩ := DataW.trod_struct Try.underlying47 h
  rw [cn_sav] at hlen
  obtain ⟨y0, y1, y2, rfl⟩ := listQ3 hyl
  have f0 : DataW.trod enc Try.prog w base spare held n 9 ((cs.drop 0).take (Try.prog.cellsOf 9)) = some y0 := hf 0 _ rfl
  rw [cn_str] at f0
  have f1 : DataW.trod enc Try.prog w base spare held n 22 ((cs.drop 1).take (Try.prog.cellsOf 22)) = some y1 := hf 1 _ rfl
  rw [cn_vals] at f1
  have f2 : DataW.trod enc Try.prog w base spare held n 45 ((cs.drop 2).take (Try.prog.cellsOf 45)) = some y2 := hf 2 _ rfl
  rw [cn_inps] at f2
  obtain ⟨a0, r0, o0, m0⟩ := opens_strz Try.underlying9 _ _ f0
  obtain ⟨a1, r1, o1, m1⟩ := opensVs _ _ _ f1
  obtain ⟨a2, r2, o2, m2⟩ := opensIs _ _ _ f2
  refine ⟨⟨a0, a1, a2⟩, ?_, ?_, ?_⟩
  · have := rts_seg r0 (rts_seg r1 (rts_seg r2 (rts_end hlen)))
    simpa [Sav.cells, Sav.mass] using this
  · have := one_seg o0 (one_seg o1 (one_seg o2 (one_end hlen)))
    simpa using this
  · simp only [Sav.cells, Sav.mass, List.map_cons, List.map_nil, Rows.uptoBulk, Rows.uptoBulkAll] at m0 m1 m2 ⊢
    omega
end
theorem sum_mem {α : Type} (f : α → Nat) : ∀ {l : List α} {x : α}, x ∈ l → f x ≤ (l.map f).sum
  | a :: l, x, h => by
    rcases List.mem_cons.1 h with rfl | h
    · simp only [List.map_cons, List.sum_cons]; omega
    · have := sum_mem f h; simp only [List.map_cons, List.sum_cons]; omega
theorem V.mass_tiny {v : V} (h : v.mass ≤ 1048576) : v.tiny := by
  obtain ⟨h1, h2⟩ := V.mass_ok v h
  have h3 := V.bytes_len v h1 (by omega) (by omega)
  exact ⟨h1, by omega, by omega⟩
theorem V.mass_pos (v : V) : 1 ≤ v.mass := by
  obtain ⟨k, n, t, l⟩ := v
  have := far_pos k
  simp only [V.mass]; omega
theorem sum_pos {α : Type} (f : α → Nat) (hf : ∀ x, 1 ≤ f x) : ∀ l : List α, l.length ≤ (l.map f).sum
  | [] => by simp
  | a :: l => by have := sum_pos f hf l; have := hf a; simp only [List.map_cons, List.sum_cons, List.length_cons]; omega
theorem Sav.mass_ok (s : Sav) (h : s.mass ≤ 1048576) : s.Small ∧ s.state.length ≤ 1048576 := by
  simp only [Sav.mass] at h
  have h1 := sum_pos V.mass V.mass_pos s.state
  refine ⟨⟨fun v hv => V.mass_tiny (by have := sum_mem V.mass hv; omega), fun x hx => V.mass_tiny (by have := sum_mem Inp.mass hx; simp only [Inp.mass] at this; omega), by omega⟩, by omega⟩
end Go.Proofs.Ythgackidonocpaa
namespace Go.Proofs.Ythgackidonocpaa
open Go.ChangeShapes Go.WideShapes Go.ChangeAt Go.RowKit Go.Deep
section
variable {H : Type} {enc : TypeId × Value → H} {P : Program} {w : World} {base : Nat} {spare : Nat → Bool} {held : Bool}
instance : Inhabited UInt8 := ⟨0⟩
theorem opens_u8 {t : TypeId} {fuel : Nat} (ht : P.underlying t = some (.int .u8)) : Opens enc P w base spare held t (fun b : UInt8 => [bytT b]) (fun _ => 1) fuel := by
  intro cs x h
  obtain ⟨i, rfl, rfl, hw⟩ := DataW.trod_int ht h
  have hin : 0 ≤ i ∧ i < 256 := by
    simp [Lit.wf, IntKind.min, IntKind.max, IntKind.bits, IntKind.signed] at hw
    omega
  have hb : (((UInt8.ofNat i.toNat).toNat : Nat) : Int) = i := by
    rw [UInt8.toNat_ofNat', Nat.mod_eq_of_lt (by omega)]
    omega
  exact ⟨UInt8.ofNat i.toNat, by simp only [RTs, RT, bytT, hb]; exact ⟨_, _, rfl, rfl, rfl⟩, fun u hu => by simp at hu; subst hu; rfl, bulk_one _⟩
theorem flat_byt : ∀ l : List UInt8, (l.flatMap fun b => [bytT b]) = byts l
  | [] => rfl
  | b :: l => by simp [byts, flat_byt l]
theorem sum_one {α : Type} : ∀ l : List α, (l.map fun _ => 1).sum = l.length
  | [] => rfl
  | _ :: l => by simp only [List.map_cons, List.sum_cons, sum_one l, List.length_cons]; omega
theorem opensB (fuel : Nat) : Opens enc Try.prog w base spare held 27 (fun l : List UInt8 => [bytRow l]) (fun l => l.length + 1) fuel := by
  intro cs x h
  obtain ⟨l, h1, h2, h3⟩ := opens_slice (fun b : UInt8 => [bytT b]) (fun _ => 1) 1 (by omega) (fun _ => rfl) Try.underlying27 (by kernel_rfl) (fun m _ => opens_u8 Try.underlying5) cs x h
  dsimp only at h1 h3
  rw [flat_byt] at h1
  rw [sum_one] at h3
  exact ⟨l, h1, h2, h3⟩
end
end Go.Proofs.Ythgackidonocpaa
