/-
  Texts of this proof, part 11: Tzi Open Law OpenT OpenY OpenM.
-/
import Derived.Test.YtllgibfmddihgaaDoorQKindSays10
import Derived.Deep.Slices
import Derived.JoinedCond
import Derived.Laws.StructEq
import Derived.Lib.AppendStr
import Derived.Lib.MinMax
import Derived.OpenShut
import Derived.ProofKit
import Derived.Test.YtllgibfmddihgaaDoorRows
namespace Go.Proofs.YtllgibfmddihgaaDoor
open Go.RowKit
mutual
def Y.slim : Y → Prop
  | .mk k n l => inI k ∧ n.size ≤ 1048576 ∧ l.length ≤ 1048576 ∧ Y.slims l
def Y.slims : List Y → Prop
  | [] => True
  | v :: r => v.slim ∧ Y.slims r
end
theorem Y.slims_iff : ∀ l : List Y, Y.slims l ↔ ∀ v ∈ l, v.slim
  | [] => by simp [Y.slims]
  | v :: l => by simp [Y.slims, Y.slims_iff l]
theorem Y.slim_of (v : Y) : v.mass ≤ 1048576 → v.slim := by
  induction v using Y.ind with
  | h k n l ih =>
    intro h
    rw [Y.mass, Y.masses_sum] at h
    rw [Y.slim, Y.slims_iff]
    have h1 := len_sum' Y.mass Y.mass_pos l
    exact ⟨far_in (by omega), by omega, by omega, fun v hv => ih v hv (by have := sum_mem' Y.mass hv; omega)⟩
theorem getD_mem {tl : List Y} {j : Nat} {d : Y} (h : j < tl.length) : tl.getD j d ∈ tl := by
  rw [List.getD_eq_getElem?_getD, List.getElem?_eq_getElem h]
  exact List.getElem_mem h
theorem slim_put (ns : List ByteArray) (tl : List Y) (htl : ∀ v ∈ tl, v.slim) (v : Y) : v.slim → (v.put ns tl).slim := by
  induction v using Y.ind with
  | h k n l ih =>
    intro h
    rw [Y.slim, Y.slims_iff] at h
    rw [Y.put]
    cases hh : hitB ns tl.length k n
    · simp only [cond]
      rw [Y.slim, Y.slims_iff, Y.puts_eq, List.length_map]
      refine ⟨h.1, h.2.1, h.2.2.1, fun x hx => ?_⟩
      obtain ⟨y, hy, rfl⟩ := List.mem_map.1 hx
      exact ih y hy (h.2.2.2 y hy)
    · obtain ⟨_, j, hj, hjl⟩ := hit_some hh
      simp only [cond]
      rw [hj]
      exact htl _ (getD_mem hjl)
theorem sum_mul_le {α : Type} (f g : α → Nat) (c : Nat) : ∀ l : List α, (∀ a ∈ l, f a ≤ c * g a) → (l.map f).sum ≤ c * (l.map g).sum
  | [], _ => by simp
  | a :: l, h => by
    have h1 := h a (by simp)
    have h2 := sum_mul_le f g c l fun x hx => h x (List.mem_cons_of_mem _ hx)
    simp only [List.map_cons, List.sum_cons, Nat.mul_add]
    omega
theorem flat_sum {α : Type} (f : α → List UInt8) : ∀ l : List α, (l.flatMap f).length = (l.map fun a => (f a).length).sum
  | [] => rfl
  | a :: l => by simp [flat_sum f l]
theorem put_mark_le (ns : List ByteArray) (tl : List Y) (M : Nat) (hM : 1 ≤ M) (hM2 : M ≤ 1048576) (htl : ∀ v ∈ tl, v.mass ≤ M) (v : Y) : v.mass ≤ 1048576 → (v.put ns tl).mark.length ≤ 21 * M * v.mass := by
  induction v using Y.ind with
  | h k n l ih =>
    intro h
    rw [Y.mass, Y.masses_sum] at h ⊢
    rw [Y.put]
    have hll := len_sum' Y.mass Y.mass_pos l
    cases hh : hitB ns tl.length k n
    · simp only [cond]
      have h2 := numB_nat (n := l.length) (by omega)
      have h3 := numB_far (n := k) (by omega)
      have h4 := textB_le (s := n) (by omega)
      have h5 := sum_mul_le (fun a => (a.put ns tl).mark.length) Y.mass (21 * M) l fun a ha => ih a ha (by have := sum_mem' Y.mass ha; omega)
      have h6 : ((l.map (Y.put ns tl)).flatMap Y.mark).length = (l.map fun a => (a.put ns tl).mark.length).sum := by rw [flat_sum, List.map_map]; rfl
      simp only [Y.mark, Y.marks_eq, Y.puts_eq, List.length_append, List.length_map, h6]
      have h7 : 21 * (far k + (n.size + 1) + 1) ≤ 21 * M * (far k + (n.size + 1) + 1) := Nat.mul_le_mul_right _ (by omega)
      have h8 : 21 * M * (far k + (n.size + 1) + ((l.map Y.mass).sum + 1)) = 21 * M * (far k + (n.size + 1) + 1) + 21 * M * (l.map Y.mass).sum := by rw [← Nat.mul_add]; congr 1; omega
      rw [h8]
      omega
    · obtain ⟨_, j, hj, hjl⟩ := hit_some hh
      simp only [cond]
      rw [hj]
      have h1 := htl _ (getD_mem (d := .mk 0 ⟨#[]⟩ []) hjl)
      have h2 := Y.mark_le _ (Nat.le_trans h1 hM2)
      have h3 : 1 ≤ far k + (n.size + 1) + ((l.map Y.mass).sum + 1) := by omega
      have h4 : 21 * M * 1 ≤ 21 * M * (far k + (n.size + 1) + ((l.map Y.mass).sum + 1)) := Nat.mul_le_mul_left _ h3
      simp only [Int.toNat_natCast]
      omega
set_option maxRecDepth 100000 in
set_option maxHeartbeats 4000000 in
theorem typeMarkL_af (y : Y) : y.slim → y.mark.length ≤ 70368744177664 → AF Tryd.prog 34 [y.t] (· = .lit (.string (bs y.mark))) := by
  induction y using Y.ind with
  | h k n l ih =>
    intro hok hb
    simp only [Y.slim, Y.slims_iff] at hok
    obtain ⟨hk0, hn0, hl0, hcs⟩ := hok
    have hm : (Y.mk k n l).mark = numsB [k, (l.length : Nat)] ++ textsB [n] ++ l.flatMap Y.mark := by simp [Y.mark, Y.marks_eq, numsB, textsB, List.append_assoc]
    rw [hm] at hb ⊢
    simp only [List.length_append] at hb
    have hll := len_flat_le Y.mark Y.mark_pos l
    have hN := nums_af [k, (l.length : Nat)] (List.forall_mem_cons.2 ⟨hk0, (List.forall_mem_cons.2 ⟨inI_nat (by omega), (fun _ h => by simp at h)⟩)⟩) (by have h1 := numB_le hk0; have h2 := numB_nat (n := l.length) (by omega); simp only [numsB, List.flatMap_cons, List.flatMap_nil, List.length_append, List.length_nil]; omega)
    have hT := texts_af [n] (by have h1 := textB_le (s := n) (by omega); simp only [textsB, List.flatMap_cons, List.flatMap_nil, List.length_append, List.length_nil]; omega)
    have hC : ∀ a ∈ l, AF Tryd.prog 34 [a.t] (· = .lit (.string (bs a.mark))) := fun a ha => ih a ha (hcs a ha) (by have := mem_flat_le Y.mark ha; omega)
    clear hm hk0 hn0 hl0 hcs ih hll
    generalize numsB [k, (l.length : Nat)] = p1 at *
    generalize textsB [n] = p2 at *
    refine af_enter tok Tryd.func34 Tryd.ntmps34 Tryd.results34 rfl (by kernel_rfl) rfl rfl fun F hX => ?_
    repeat (first | refine gG ?_ | refine zN1 (fun hlen => ?_) | refine zN2 (fun hlen => ?_) | refine zAl (fun _ => ?_) | refine zBf ?_)
    refine ac_draw [1, 1, 1, 1, 1, 1, 1, 1, 1, 1, 1, 1, 1] [0, 1, 2, 3, 4, 5, 6, 7, 8, 9, 10, 11, 12] (by kernel_rfl) (by kernel_rfl) ?_
    refine gW ?_
    apply w_q; (focus exact rfl); (focus exact rfl); focus (intro _; (refine lo_call hN rfl (by repeat (first | exact rzs_nil | apply rzs_cons | exact rz_c | exact rz_nil rfl | apply rz_agg | exact rz_own rfl | apply rz_fn | exact rz_ptr rfl | apply rz_tup)) ?_; rintro _ rfl); exact det_refl)
    refine gW ?_
    apply w_q; (focus exact rfl); (focus exact rfl); focus (intro _; (refine lo_call hT rfl (by repeat (first | exact rzs_nil | apply rzs_cons | exact rz_c | exact rz_nil rfl | apply rz_agg | exact rz_own rfl | apply rz_fn | exact rz_ptr rfl | apply rz_tup)) ?_; rintro _ rfl); exact det_refl)
    apply w_q; (focus exact rfl); (focus exact rfl); focus (intro _; (refine zCatb p1 p2 (by omega) ?_); exact det_refl)
    refine gW ?_
    refine w_nil ?_
    repeat (first | refine gG ?_ | refine zN1 (fun hlen => ?_) | refine zN2 (fun hlen => ?_) | refine zAl (fun _ => ?_) | refine zBf ?_)
    refine x_loop [3, 5, 21, 22, 23, 24, 25, 26, 27, 28, 29] (fun k : Nat => [(21, .c (.lit (.int .i64 (k : Nat)))), (3, .c (.lit (.string (bs (p1 ++ p2 ++ (l.take k).flatMap Y.mark)))))]) (fun _ => []) (fun k => k ≤ l.length) (fun k => l.length - k) 0 (Nat.zero_le _) ⟨rfl, congrArg (fun s => AV.c (.lit (.string s))) (bs_take0 Y.mark l (p1 ++ p2)).symm, trivial⟩ rfl ?_
    intro k hk
    repeat (first | refine gG ?_ | refine zN1 (fun hlen => ?_) | refine zN2 (fun hlen => ?_) | refine zAl (fun _ => ?_) | refine zBf ?_)
    refine x_cond rfl (fun h => ?_) (fun h => ?_)
    · have hk' : k < l.length := by simpa using h
      obtain ⟨a, ha⟩ := nth hk'
      have hc := hC a (List.mem_of_getElem? ha)
      have hsn := flat_snoc' Y.mark ha
      have h1 := take_flat_le Y.mark l k
      have h2 := mem_flat_le Y.mark (List.mem_of_getElem? ha)
      clear h
      repeat (first | refine gG ?_ | refine zN1 (fun hlen => ?_) | refine zN2 (fun hlen => ?_) | refine zAl (fun _ => ?_) | refine zBf ?_)
      refine zIx (k) (hk') ?_
      repeat (first | refine gG ?_ | refine zN1 (fun hlen => ?_) | refine zN2 (fun hlen => ?_) | refine zAl (fun _ => ?_) | refine zBx (fun _ => ?_))
      refine zEl (Y.at ha) (Y.ts_len a) ?_
      generalize Y.mark a = ma at *
      obtain ⟨ka, na, la⟩ := a
      repeat (first | refine gG ?_ | refine zN1 (fun hlen => ?_) | refine zN2 (fun hlen => ?_) | refine zAl (fun _ => ?_) | refine zBf ?_)
      refine zCall (hc) ?_
      rintro _ rfl
      repeat (first | refine gG ?_ | refine zN1 (fun hlen => ?_) | refine zN2 (fun hlen => ?_) | refine zAl (fun _ => ?_) | refine zBf ?_)
      refine zCatb (p1 ++ p2 ++ (l.take k).flatMap Y.mark) ma (by simp only [List.length_append]; omega) ?_
      repeat (first | refine gG ?_ | refine zN1 (fun hlen => ?_) | refine zN2 (fun hlen => ?_) | refine zAl (fun _ => ?_) | refine zBf ?_)
      exact ⟨k + 1, hk', by omega, x_wkd 0 ⟨rfl, by rw [hsn, ← List.append_assoc]; rfl, trivial⟩ rfl (by repeat (first | exact ag_refl | refine ag_upd rfl ?_ | refine ag_at rfl rfl ?_))⟩
    · have hk' : k = l.length := by
        have : ¬ k < l.length := by simpa using h
        omega
      subst hk'
      rw [List.take_length]
      clear h
      repeat (first | refine gG ?_ | refine zN1 (fun hlen => ?_) | refine zN2 (fun hlen => ?_) | refine zAl (fun _ => ?_) | refine zBf ?_)
      first | refine zR ?_ | refine zQ ?_
      rfl
set_option maxRecDepth 100000 in
set_option maxHeartbeats 1000000 in
theorem says1_af (a : Da) (s : ByteArray) : AF Tryd.prog 29 [.agg (Da.ts a), .pin [.lit (.string s)] 0] (· = .lit (.bool (decide (a.name = s)))) := by
  obtain ⟨dn, dps, mks⟩ := a
  refine af_enter tok Tryd.func29 Tryd.ntmps29 Tryd.results29 rfl (by kernel_rfl) rfl rfl fun F hX => ?_
  repeat (first | refine gG ?_ | refine zBf ?_)
  first | refine zR ?_ | refine zQ ?_
  rfl
set_option maxRecDepth 100000 in
set_option maxHeartbeats 4000000 in
theorem kindSays_law (p : Pr) (ps : List ByteArray) (t u : Y) (nm : ByteArray) (hp : p.mass ≤ 1048576) (ht : t.mass ≤ 1048576) (hu : u.mass ≤ 1048576) (htu : t.mass + u.mass ≤ 1048576) : AF Tryd.prog 5 [p.t, strRow ps, t.t, u.t, .lit (.string nm)] (· = .lit (.bool true)) := by
  have hdl : p.datas.length ≤ 1048576 := by
    have h1 := len_sum' Da.mass Da.mass_pos p.datas
    unfold Pr.mass at hp
    omega
  have hsm := small_af p (Nat.le_trans p.count_le hp) (Nat.le_trans p.bodies_le hp)
  have hkp := kindProgram_af p hp
  have hko := kindsOf_af p hp
  have hda := kindData_af p nm
  have hix := idxDa_af (fun d => decide (d.name = nm)) 29 [.pin [.lit (.string nm)] 0] p.datas (fun a _ => says1_af a nm)
  have hil := idx_look p.datas nm
  unfold idxD at hil
  unfold datR at hda
  have hk1 := kindType_af p hdl ps t ht
  have ho1 := kindOf_af p hdl ps [t] (by simpa using ht)
  rw [errs_one] at ho1
  have hk2 := kindTypes_af p hdl ps [t, u] (by simpa using htu)
  have ho2 := kindOf_af p hdl ps [t, u] (by simpa using htu)
  have hpu := put_af ps [u] (fun v hv => by rw [List.mem_singleton.1 hv]; exact hu) t ht
  have hsw := swap_af ps [u] (fun v hv => by rw [List.mem_singleton.1 hv]; exact hu) t ht
  have hcp := kindCopy_af t ht
  have hmt := typeMarkL_af t (t.slim_of ht) (by have := t.mark_le ht; omega)
  have hmx := typeMarkL_af (t.put ps [u]) (slim_put ps [u] (fun v hv => by rw [List.mem_singleton.1 hv]; exact u.slim_of hu) t (t.slim_of ht)) (by
    have h1 := put_mark_le ps [u] u.mass u.mass_pos hu (fun v hv => by rw [List.mem_singleton.1 hv]; exact Nat.le_refl _) t ht
    have h2 : 21 * u.mass * t.mass ≤ 21 * 1048576 * 1048576 := Nat.mul_le_mul (Nat.mul_le_mul_left _ hu) ht
    omega)
  clear hp ht hu htu hdl
  have hnm : ∀ d, lookD p.datas nm = some d → decide (d.name = nm) = true := fun d hd => by
    unfold lookD at hd
    exact List.find?_some (p := fun d : Da => decide (d.name = nm)) hd
  generalize decide ((p.count : Int) ≤ 400) = cp at *
  generalize p.kinds = K at *
  obtain ⟨K1, K2⟩ := K
  dsimp only [wr] at hkp hko
  generalize Y.err p.datas ps t = E1 at *
  generalize Y.errs p.datas ps [t, u] = E2 at *
  generalize t.put ps [u] = x at *
  generalize bs x.mark = mx at *
  generalize bs t.mark = mt at *
  have c1 : decide (K1 = K1) = true := by simp
  have c2 : decide (K2 = K2) = true := by simp
  have c3 : decide (E1 = E1) = true := by simp
  have c4 : decide (E2 = E2) = true := by simp
  have c5 : decide ((11 : Int) = 11) = true := rfl
  have c6 : decide ((0 : Int) = 0) = true := rfl
  have c7 : decide ((⟨#[]⟩ : ByteArray) = ⟨#[]⟩) = true := by simp
  have c8 : decide (mx = mx) = true := by simp
  have c9 : decide (mt = mt) = true := by simp
  obtain ⟨pn, vr, us, ds, trs, ims, fus, acs⟩ := p
  dsimp only at *
  obtain ⟨tk, tn, tl⟩ := t
  obtain ⟨uk, un, ul⟩ := u
  obtain ⟨xk, xn, xl⟩ := x
  refine af_enter tok Tryd.func5 Tryd.ntmps5 Tryd.results5 rfl (by kernel_rfl) rfl rfl fun F hX => ?_
  repeat (first | refine gG ?_ | refine zN1 (fun hlen => ?_) | refine zN2 (fun hlen => ?_) | refine zAl (fun _ => ?_) | refine zBf ?_)
  refine zCall (hsm) ?_
  rintro _ rfl
  clear hsm
  cases cp
  · repeat (first | refine gG ?_ | refine zN1 (fun hlen => ?_) | refine zN2 (fun hlen => ?_) | refine zAl (fun _ => ?_) | refine zBx (fun _ => ?_))
    first | refine zR ?_ | refine zQ ?_
    rfl
  repeat (first | refine gG ?_ | refine zN1 (fun hlen => ?_) | refine zN2 (fun hlen => ?_) | refine zAl (fun _ => ?_) | refine zBx (fun _ => ?_))
  refine zCall (hkp) ?_
  rintro _ rfl
  clear hkp
  repeat (first | refine gG ?_ | refine zN1 (fun hlen => ?_) | refine zN2 (fun hlen => ?_) | refine zAl (fun _ => ?_) | refine zBx (fun _ => ?_))
  refine zCall (hko) ?_
  rintro _ rfl
  clear hko
  repeat (first | refine gG ?_ | refine zN1 (fun hlen => ?_) | refine zN2 (fun hlen => ?_) | refine zAl (fun _ => ?_) | refine zBx (fun _ => ?_))
  rcases hil with ⟨h1, h2⟩ | ⟨j, dd, h1, h2, h3⟩
  · rw [h1] at hda
    rw [h2] at hix
    dsimp only at hda
    clear h1 h2 hnm
    refine zCall (hda) ?_
    rintro _ rfl
    clear hda
    repeat (first | refine gG ?_ | refine zN1 (fun hlen => ?_) | refine zN2 (fun hlen => ?_) | refine zAl (fun _ => ?_) | refine zBx (fun _ => ?_))
    refine zCall (hix) ?_
    rintro _ rfl
    clear hix
    repeat (first | refine gG ?_ | refine zN1 (fun hlen => ?_) | refine zN2 (fun hlen => ?_) | refine zAl (fun _ => ?_) | refine zBx (fun _ => ?_))
    refine ac_drawB [0, 0, 2, 7, 15, 31, 31, 95, 255, 511, 1023, 2047, 4095, 8191, 16383, 32767, 65535, 131071, 262143, 524287, 1048575, 2097151, 4194303, 8388607, 16777215, 33554431, 67108863, 134217727, 268435455, 536870911, 1073741823, 2147483647, 4294967295, 8589934591, 17179869183, 34359738367, 68719476735, 137438953471, 68719476735, 549755813887, 1099511627775, 2199023255551, 4398046511103, 8796093022207, 17592186044415, 4398046511103, 39582418599935, 4398046511103, 250688651132927, 532163627843583, 1095113581264895, 2221013488107519, 4503599627370495, 9007199254740991, 18014398509481983, 36028797018963967] [1, 1, 1, 1, 1, 1, 1, 1, 1, 1, 1, 1, 1, 1, 1, 1, 1, 1, 1, 1, 1, 1, 1, 1, 1, 1, 1, 1, 1, 1, 1, 1, 1, 1, 1, 1, 1, 1, 1, 1, 1, 1, 1, 1, 1, 1, 1, 1, 1, 1, 1, 1, 1, 1, 1, 1] [0, 1, 2, 3, 4, 5, 6, 7, 8, 9, 10, 11, 12, 13, 14, 15, 16, 17, 18, 19, 20, 21, 22, 23, 24, 25, 26, 27, 28, 29, 30, 31, 32, 33, 34, 35, 36, 37, 38, 39, 40, 41, 42, 43, 44, 45, 46, 47, 48, 49, 50, 51, 52, 53, 54, 55] (by kernel_rfl) (by kernel_rfl) ?_
    refine gW ?_
    refine w_nil ?_
    repeat (first | refine gG ?_ | refine zN1 (fun hlen => ?_) | refine zN2 (fun hlen => ?_) | refine zAl (fun _ => ?_) | refine zBx (fun _ => ?_))
    refine ac_drawB [0, 0, 0, 7, 0, 0, 0, 64, 255, 511, 1023, 2047, 2047, 2047, 2047, 26623, 65535, 2047, 2047, 2047, 2047, 1574911, 4194303, 8388607, 16777215] [1, 1, 1, 1, 1, 1, 1, 1, 1, 1, 1, 1, 1, 1, 1, 1, 1, 1, 1, 1, 1, 1, 1, 1, 1] [0, 1, 2, 3, 4, 5, 6, 7, 8, 9, 10, 11, 12, 13, 14, 15, 16, 17, 18, 19, 20, 21, 22, 23, 24] (by kernel_rfl) (by kernel_rfl) ?_
    refine gW ?_
    apply w_q; (focus exact rfl); (focus exact rfl); focus (intro _; (refine zCall hk1 ?_; rintro _ rfl); exact det_refl)
    refine gW ?_
    apply w_q; (focus exact rfl); (focus exact rfl); focus (intro _; (refine zCall ho1 ?_; rintro _ rfl); exact det_refl)
    refine gW ?_
    try (first | (apply w_un; (focus exact rfl); (focus exact rfl); (focus exact rfl); (focus exact rfl)) | (apply w_no; (focus exact rfl); (focus exact rfl); (focus exact rfl); (focus exact rfl); focus (first | rfl | assumption | exact neg_t (by assumption) | exact neg_f (by assumption))) | (apply w_qg; (focus exact rfl); (focus exact rfl); (focus exact rfl); (focus exact rfl); (focus (first | rfl | assumption | exact neg_t (by assumption) | exact neg_f (by assumption))); (focus (intro _; (refine zCall hk2 ?_; rintro _ rfl); exact det_refl))))
    try refine gW ?_
    try (first | (apply w_un; (focus exact rfl); (focus exact rfl); (focus exact rfl); (focus exact rfl)) | (apply w_no; (focus exact rfl); (focus exact rfl); (focus exact rfl); (focus exact rfl); focus (first | rfl | assumption | exact neg_t (by assumption) | exact neg_f (by assumption))) | (apply w_qg; (focus exact rfl); (focus exact rfl); (focus exact rfl); (focus exact rfl); (focus (first | rfl | assumption | exact neg_t (by assumption) | exact neg_f (by assumption))); (focus (intro _; (refine zCall ho2 ?_; rintro _ rfl); exact det_refl))))
    try refine gW ?_
    refine w_nil ?_
    clear hk1 ho1 hk2 ho2
    repeat (first | refine gG ?_ | refine zN1 (fun hlen => ?_) | refine zN2 (fun hlen => ?_) | refine zAl (fun _ => ?_) | refine zBx (fun _ => ?_))
    refine zCall (hpu) ?_
    rintro _ rfl
    clear hpu
    repeat (first | refine gG ?_ | refine zN1 (fun hlen => ?_) | refine zN2 (fun hlen => ?_) | refine zAl (fun _ => ?_) | refine zBx (fun _ => ?_))
    refine ac_draw [1, 1, 1, 1, 1, 1, 1, 1, 1, 1, 1, 1, 1, 1, 1, 1, 1, 1] [0, 1, 2, 3, 4, 5, 6, 7, 8, 9, 10, 11, 12, 13, 14, 15, 16, 17] (by kernel_rfl) (by kernel_rfl) ?_
    refine gW ?_
    apply w_q; (focus exact rfl); (focus exact rfl); focus (intro _; (refine zCall hmx ?_; rintro _ rfl); exact det_refl)
    refine gW ?_
    apply w_q; (focus exact rfl); (focus exact rfl); focus (intro _; (refine zCall hsw ?_; rintro _ rfl); exact det_refl)
    apply w_q; (focus exact rfl); (focus exact rfl); focus (intro _; (refine zCall hmx ?_; rintro _ rfl); exact det_refl)
    apply w_q; (focus exact rfl); (focus exact rfl); focus (intro _; (refine lo_eqsr c8 ?_); exact det_refl)
    refine gW ?_
    try (first | (apply w_un; (focus exact rfl); (focus exact rfl); (focus exact rfl); (focus exact rfl)) | (apply w_no; (focus exact rfl); (focus exact rfl); (focus exact rfl); (focus exact rfl); focus (first | rfl | assumption | exact neg_t (by assumption) | exact neg_f (by assumption))) | (apply w_qg; (focus exact rfl); (focus exact rfl); (focus exact rfl); (focus exact rfl); (focus (first | rfl | assumption | exact neg_t (by assumption) | exact neg_f (by assumption))); (focus (intro _; (refine zCall hcp ?_; rintro _ rfl); exact det_refl))))
    (first | (apply w_un; (focus exact rfl); (focus exact rfl); (focus exact rfl); (focus exact rfl)) | (apply w_no; (focus exact rfl); (focus exact rfl); (focus exact rfl); (focus exact rfl); focus (first | rfl | assumption | exact neg_t (by assumption) | exact neg_f (by assumption))) | (apply w_qg; (focus exact rfl); (focus exact rfl); (focus exact rfl); (focus exact rfl); (focus (first | rfl | assumption | exact neg_t (by assumption) | exact neg_f (by assumption))); (focus (intro _; (refine zCall hmt ?_; rintro _ rfl); exact det_refl))))
    try refine gW ?_
    try (first | (apply w_un; (focus exact rfl); (focus exact rfl); (focus exact rfl); (focus exact rfl)) | (apply w_no; (focus exact rfl); (focus exact rfl); (focus exact rfl); (focus exact rfl); focus (first | rfl | assumption | exact neg_t (by assumption) | exact neg_f (by assumption))) | (apply w_qg; (focus exact rfl); (focus exact rfl); (focus exact rfl); (focus exact rfl); (focus (first | rfl | assumption | exact neg_t (by assumption) | exact neg_f (by assumption))); (focus (intro _; (refine zCall hmt ?_; rintro _ rfl); exact det_refl))))
    (first | (apply w_un; (focus exact rfl); (focus exact rfl); (focus exact rfl); (focus exact rfl)) | (apply w_no; (focus exact rfl); (focus exact rfl); (focus exact rfl); (focus exact rfl); focus (first | rfl | assumption | exact neg_t (by assumption) | exact neg_f (by assumption))) | (apply w_qg; (focus exact rfl); (focus exact rfl); (focus exact rfl); (focus exact rfl); (focus (first | rfl | assumption | exact neg_t (by assumption) | exact neg_f (by assumption))); (focus (intro _; (refine lo_eqsr c9 ?_); exact det_refl))))
    try refine gW ?_
    refine w_nil ?_
    repeat (first | refine gG ?_ | refine zN1 (fun hlen => ?_) | refine zN2 (fun hlen => ?_) | refine zAl (fun _ => ?_) | refine zBx (fun _ => ?_))
    first | refine zR ?_ | refine zQ ?_
    rfl
  · have hn := hnm dd h1
    rw [h1] at hda
    rw [h2] at hix
    dsimp only at hda
    have hj : j < ds.length := (List.getElem?_eq_some_iff.1 h3).1
    have hpr := flat_get Da.ts 3 Da.ts_len h3 (j := 2) (by omega)
    have d0 : decide (((j : Nat) : Int) < 0) = false := decide_eq_false (by omega)
    have d1 : decide ((0 : Int) ≤ ((j : Nat) : Int)) = true := decide_eq_true (by omega)
    have d2 : decide (((dd.makes.length : Nat) : Int) = ((dd.makes.length : Nat) : Int)) = true := by simp
    clear h1 h2 h3 hnm
    obtain ⟨dn, dps, mks⟩ := dd
    have hpo : (ds.flatMap Da.ts)[j * 3 + 2]? = some (Mk.row mks) := hpr
    dsimp only at d2 hn
    clear hpr
    refine zCall (hda) ?_
    rintro _ rfl
    clear hda
    repeat (first | refine gG ?_ | refine zN1 (fun hlen => ?_) | refine zN2 (fun hlen => ?_) | refine zAl (fun _ => ?_) | refine zBx (fun _ => ?_))
    refine zCall (hix) ?_
    rintro _ rfl
    clear hix
    repeat (first | refine gG ?_ | refine zN1 (fun hlen => ?_) | refine zN2 (fun hlen => ?_) | refine zAl (fun _ => ?_) | refine zBx (fun _ => ?_))
    refine ac_drawB [0, 0, 2, 7, 15, 31, 31, 95, 255, 511, 1023, 2047, 4095, 8191, 16383, 32767, 65535, 131071, 262143, 524287, 1048575, 2097151, 4194303, 8388607, 16777215, 33554431, 67108863, 134217727, 268435455, 536870911, 1073741823, 2147483647, 4294967295, 8589934591, 17179869183, 34359738367, 68719476735, 137438953471, 68719476735, 549755813887, 1099511627775, 2199023255551, 4398046511103, 8796093022207, 17592186044415, 4398046511103, 39582418599935, 4398046511103, 250688651132927, 532163627843583, 1095113581264895, 2221013488107519, 4503599627370495, 9007199254740991, 18014398509481983, 36028797018963967] [1, 1, 1, 1, 1, 1, 1, 1, 1, 1, 1, 1, 1, 1, 1, 1, 1, 1, 1, 1, 1, 1, 1, 1, 1, 1, 1, 1, 1, 1, 1, 1, 1, 1, 1, 1, 1, 1, 1, 1, 1, 1, 1, 1, 1, 1, 1, 1, 1, 1, 1, 1, 1, 1, 1, 1] [0, 1, 2, 3, 4, 5, 6, 7, 8, 9, 10, 11, 12, 13, 14, 15, 16, 17, 18, 19, 20, 21, 22, 23, 24, 25, 26, 27, 28, 29, 30, 31, 32, 33, 34, 35, 36, 37, 38, 39, 40, 41, 42, 43, 44, 45, 46, 47, 48, 49, 50, 51, 52, 53, 54, 55] (by kernel_rfl) (by kernel_rfl) ?_
    refine gW ?_
    try (first | (apply w_un; (focus exact rfl); (focus exact rfl); (focus exact rfl); (focus exact rfl)) | (apply w_no; (focus exact rfl); (focus exact rfl); (focus exact rfl); (focus exact rfl); focus (first | rfl | assumption | exact neg_t (by assumption) | exact neg_f (by assumption))) | (apply w_qg; (focus exact rfl); (focus exact rfl); (focus exact rfl); (focus exact rfl); (focus (first | rfl | assumption | exact neg_t (by assumption) | exact neg_f (by assumption))); (focus (intro _; (refine zIx j hj ?_); exact det_refl))))
    try refine gW ?_
    try (first | (apply w_un; (focus exact rfl); (focus exact rfl); (focus exact rfl); (focus exact rfl)) | (apply w_no; (focus exact rfl); (focus exact rfl); (focus exact rfl); (focus exact rfl); focus (first | rfl | assumption | exact neg_t (by assumption) | exact neg_f (by assumption))) | (apply w_qg; (focus exact rfl); (focus exact rfl); (focus exact rfl); (focus exact rfl); (focus (first | rfl | assumption | exact neg_t (by assumption) | exact neg_f (by assumption))); (focus (intro _; (refine zEl1 hpo ?_); exact det_refl))))
    try refine gW ?_
    refine w_nil ?_
    repeat (first | refine gG ?_ | refine zN1 (fun hlen => ?_) | refine zN2 (fun hlen => ?_) | refine zAl (fun _ => ?_) | refine zBx (fun _ => ?_))
    refine ac_drawB [0, 0, 0, 7, 0, 0, 0, 64, 255, 511, 1023, 2047, 2047, 2047, 2047, 26623, 65535, 2047, 2047, 2047, 2047, 1574911, 4194303, 8388607, 16777215] [1, 1, 1, 1, 1, 1, 1, 1, 1, 1, 1, 1, 1, 1, 1, 1, 1, 1, 1, 1, 1, 1, 1, 1, 1] [0, 1, 2, 3, 4, 5, 6, 7, 8, 9, 10, 11, 12, 13, 14, 15, 16, 17, 18, 19, 20, 21, 22, 23, 24] (by kernel_rfl) (by kernel_rfl) ?_
    refine gW ?_
    apply w_q; (focus exact rfl); (focus exact rfl); focus (intro _; (refine zCall hk1 ?_; rintro _ rfl); exact det_refl)
    refine gW ?_
    apply w_q; (focus exact rfl); (focus exact rfl); focus (intro _; (refine zCall ho1 ?_; rintro _ rfl); exact det_refl)
    refine gW ?_
    try (first | (apply w_un; (focus exact rfl); (focus exact rfl); (focus exact rfl); (focus exact rfl)) | (apply w_no; (focus exact rfl); (focus exact rfl); (focus exact rfl); (focus exact rfl); focus (first | rfl | assumption | exact neg_t (by assumption) | exact neg_f (by assumption))) | (apply w_qg; (focus exact rfl); (focus exact rfl); (focus exact rfl); (focus exact rfl); (focus (first | rfl | assumption | exact neg_t (by assumption) | exact neg_f (by assumption))); (focus (intro _; (refine zCall hk2 ?_; rintro _ rfl); exact det_refl))))
    try refine gW ?_
    try (first | (apply w_un; (focus exact rfl); (focus exact rfl); (focus exact rfl); (focus exact rfl)) | (apply w_no; (focus exact rfl); (focus exact rfl); (focus exact rfl); (focus exact rfl); focus (first | rfl | assumption | exact neg_t (by assumption) | exact neg_f (by assumption))) | (apply w_qg; (focus exact rfl); (focus exact rfl); (focus exact rfl); (focus exact rfl); (focus (first | rfl | assumption | exact neg_t (by assumption) | exact neg_f (by assumption))); (focus (intro _; (refine zCall ho2 ?_; rintro _ rfl); exact det_refl))))
    try refine gW ?_
    refine w_nil ?_
    clear hk1 ho1 hk2 ho2
    repeat (first | refine gG ?_ | refine zN1 (fun hlen => ?_) | refine zN2 (fun hlen => ?_) | refine zAl (fun _ => ?_) | refine zBx (fun _ => ?_))
    refine zCall (hpu) ?_
    rintro _ rfl
    clear hpu
    repeat (first | refine gG ?_ | refine zN1 (fun hlen => ?_) | refine zN2 (fun hlen => ?_) | refine zAl (fun _ => ?_) | refine zBx (fun _ => ?_))
    refine ac_draw [1, 1, 1, 1, 1, 1, 1, 1, 1, 1, 1, 1, 1, 1, 1, 1, 1, 1] [0, 1, 2, 3, 4, 5, 6, 7, 8, 9, 10, 11, 12, 13, 14, 15, 16, 17] (by kernel_rfl) (by kernel_rfl) ?_
    refine gW ?_
    apply w_q; (focus exact rfl); (focus exact rfl); focus (intro _; (refine zCall hmx ?_; rintro _ rfl); exact det_refl)
    refine gW ?_
    apply w_q; (focus exact rfl); (focus exact rfl); focus (intro _; (refine zCall hsw ?_; rintro _ rfl); exact det_refl)
    apply w_q; (focus exact rfl); (focus exact rfl); focus (intro _; (refine zCall hmx ?_; rintro _ rfl); exact det_refl)
    apply w_q; (focus exact rfl); (focus exact rfl); focus (intro _; (refine lo_eqsr c8 ?_); exact det_refl)
    refine gW ?_
    try (first | (apply w_un; (focus exact rfl); (focus exact rfl); (focus exact rfl); (focus exact rfl)) | (apply w_no; (focus exact rfl); (focus exact rfl); (focus exact rfl); (focus exact rfl); focus (first | rfl | assumption | exact neg_t (by assumption) | exact neg_f (by assumption))) | (apply w_qg; (focus exact rfl); (focus exact rfl); (focus exact rfl); (focus exact rfl); (focus (first | rfl | assumption | exact neg_t (by assumption) | exact neg_f (by assumption))); (focus (intro _; (refine zCall hcp ?_; rintro _ rfl); exact det_refl))))
    (first | (apply w_un; (focus exact rfl); (focus exact rfl); (focus exact rfl); (focus exact rfl)) | (apply w_no; (focus exact rfl); (focus exact rfl); (focus exact rfl); (focus exact rfl); focus (first | rfl | assumption | exact neg_t (by assumption) | exact neg_f (by assumption))) | (apply w_qg; (focus exact rfl); (focus exact rfl); (focus exact rfl); (focus exact rfl); (focus (first | rfl | assumption | exact neg_t (by assumption) | exact neg_f (by assumption))); (focus (intro _; (refine zCall hmt ?_; rintro _ rfl); exact det_refl))))
    try refine gW ?_
    try (first | (apply w_un; (focus exact rfl); (focus exact rfl); (focus exact rfl); (focus exact rfl)) | (apply w_no; (focus exact rfl); (focus exact rfl); (focus exact rfl); (focus exact rfl); focus (first | rfl | assumption | exact neg_t (by assumption) | exact neg_f (by assumption))) | (apply w_qg; (focus exact rfl); (focus exact rfl); (focus exact rfl); (focus exact rfl); (focus (first | rfl | assumption | exact neg_t (by assumption) | exact neg_f (by assumption))); (focus (intro _; (refine zCall hmt ?_; rintro _ rfl); exact det_refl))))
    (first | (apply w_un; (focus exact rfl); (focus exact rfl); (focus exact rfl); (focus exact rfl)) | (apply w_no; (focus exact rfl); (focus exact rfl); (focus exact rfl); (focus exact rfl); focus (first | rfl | assumption | exact neg_t (by assumption) | exact neg_f (by assumption))) | (apply w_qg; (focus exact rfl); (focus exact rfl); (focus exact rfl); (focus exact rfl); (focus (first | rfl | assumption | exact neg_t (by assumption) | exact neg_f (by assumption))); (focus (intro _; (refine lo_eqsr c9 ?_); exact det_refl))))
    try refine gW ?_
    refine w_nil ?_
    repeat (first | refine gG ?_ | refine zN1 (fun hlen => ?_) | refine zN2 (fun hlen => ?_) | refine zAl (fun _ => ?_) | refine zBx (fun _ => ?_))
    first | refine zR ?_ | refine zQ ?_
    rfl
end Go.Proofs.YtllgibfmddihgaaDoor
namespace Go.Proofs.YtllgibfmddihgaaDoor
open Go.ChangeShapes Go.WideShapes Go.ChangeAt Go.RowKit Go.Deep
section
variable {H : Type} {enc : TypeId × Value → H} {P : Program} {w : World} {base : Nat} {spare : Nat → Bool} {held : Bool}
theorem bulk_one (d : DataW H) : 1 ≤ Rows.uptoBulk d := by
  cases d with
  | lit l => cases l <;> simp [Rows.uptoBulk]
  | _ => simp [Rows.uptoBulk]
end
end Go.Proofs.YtllgibfmddihgaaDoor
namespace Go.Proofs.YtllgibfmddihgaaDoor
open Go.ChangeShapes Go.WideShapes Go.ChangeAt Go.RowKit
theorem own : ownKnob Tryd.prog.godebug = none := by kernel_rfl
theorem laidOut : laidOutB Tryd.prog = true := by kernel_rfl
section
variable {H : Type} {enc : TypeId × Value → H}
theorem trodAll_below {P : Program} (hl : laidOutB P = true) {W W' : World} (hb : Below W.heap.size W W') (ts : List TypeId) : ∀ (vs : List Value) (ds : List (DataW H)) (ps : List MemPlace),
    (ts.all fun t => P.readableRec t && decide (t < P.types.size)) = true → DataW.TrodAll enc P W 0 (fun _ => true) true ts vs ds ps → (∀ x ∈ ps, x.block < W.heap.size) →
    DataW.TrodAll enc P W' 0 (fun b => decide (b < W.heap.size)) true ts vs ds ps := by
  induction ts with
  | nil =>
    intro vs ds ps _ h _
    obtain ⟨rfl, rfl, rfl⟩ := trodAll_nil h
    rfl
  | cons t ts ih =>
    intro vs ds ps hr h hlt
    obtain ⟨v, vs', d, ds', p, q, rfl, rfl, rfl, h0, h1⟩ := trodAll_cons h
    simp only [List.all_cons, Bool.and_eq_true, decide_eq_true_eq] at hr
    refine ⟨p, q, Below.trod hl hr.1.1 hr.1.2 h0 hb fun x hx => hlt x (List.mem_append_left _ hx), ?_, rfl⟩
    exact ih vs' ds' q hr.2 h1 fun x hx => hlt x (List.mem_append_right _ hx)
theorem law_post {f : Func} {s : ChangeSpec} {W W' : World} {args : Array Value} {ds gs : List (DataW H)} {before : List MemPlace}
    (hW : DataW.Whole enc Tryd.prog f.params.toList s.vars false W args.toList ds gs before) (hv : s.vars = []) (hrt : f.resultTypes = #[4])
    (hr : (f.params.toList.all fun t => Tryd.prog.readableRec t && decide (t < Tryd.prog.types.size)) = true)
    (hres : (s.fn H (ds ++ gs)).results = [.lit (.bool true)]) (hargs : (s.fn H (ds ++ gs)).args = ds) (hvars : (s.fn H (ds ++ gs)).vars = []) (hb : Below W.heap.size W W') :
    s.post enc Tryd.prog f false true false false W args (.bool true) W' := by
  have hlt : ∀ p ∈ before, p.block < W.heap.size := fun p hp => hW.lt p hp
  have hW' := hW
  obtain ⟨p, q, hA, hV, rfl, _, _⟩ := hW'
  rw [hv] at hV
  obtain ⟨rfl, rfl⟩ := trodVars_none hV
  rw [List.append_nil] at hlt
  refine ⟨ds, [], _, [], p, [], hW, ?_, ?_, ?_, hb.frame _ |> World.keptBut_mono (fun x hx => ⟨hx, ?_⟩), fun h => by cases h⟩
  · rw [hrt, hres]
    exact trodAll_mk1 (shut_bool Tryd.underlying4 true)
  · rw [hargs]
    exact trodAll_below laidOut hb _ _ _ _ hr hA hlt
  · rw [hvars, hv]
    rfl
  · rw [List.append_nil] at hx
    exact .inr (.inl hx)
end
end Go.Proofs.YtllgibfmddihgaaDoor
namespace Go.Proofs.YtllgibfmddihgaaDoor
open Go.ChangeShapes Go.WideShapes Go.ChangeAt Go.RowKit Go.Deep
/-- all memory of a world -/
def memOf (w : World) : Mm := frz (fun _ => none) 0 w
theorem memOf_ok (w : World) : MemOk (memOf w) w := frz_ok (fun p v h => by cases h) 0
theorem memOf_at {w : World} {p : Addr} {v : Value} (h : w.cell? p = some v) (h1 : v.oneCell' = true) : memOf w p = some v := frz_new rfl (Nat.zero_le _) h h1
section
variable {H : Type} {enc : TypeId × Value → H} {P : Program} {w : World} {base : Nat} {spare : Nat → Bool} {held : Bool}
def Opens (enc : TypeId × Value → H) (P : Program) (w : World) (base : Nat) (spare : Nat → Bool) (held : Bool) (t : TypeId) {α : Type} (f : α → List T) (μ : α → Nat) (fuel : Nat) : Prop :=
  ∀ (cs : List Value) (x : DataW H × List MemPlace), DataW.trod enc P w base spare held fuel t cs = some x → ∃ a, RTs (memOf w) (f a) cs ∧ OneAll cs ∧ μ a ≤ Rows.uptoBulk x.1
theorem sum_le {α : Type} (μ : α → Nat) : ∀ (l : List α) (ds : List (DataW H)), l.length = ds.length → (∀ (i : Nat) (a : α) (d : DataW H), l[i]? = some a → ds[i]? = some d → μ a ≤ Rows.uptoBulk d) → (l.map μ).sum ≤ Rows.uptoBulkAll ds
  | [], [], _, _ => by simp [Rows.uptoBulkAll]
  | a :: l, d :: ds, hl, h => by
    have h1 := h 0 a d rfl rfl
    have h2 := sum_le μ l ds (by simpa using hl) fun i a d ha hd => h (i + 1) a d (by simpa using ha) (by simpa using hd)
    simp only [List.map_cons, List.sum_cons, Rows.uptoBulkAll]
    omega
  | [], _ :: _, hl, _ => by simp at hl
  | _ :: _, [], hl, _ => by simp at hl
theorem snoc_ind {α : Type} {p : List α → Prop} (h0 : p []) (h1 : ∀ l x, p l → p (l ++ [x])) (l : List α) : p l := by
  have : ∀ n (l : List α), l.length = n → p l := by
    intro n
    induction n with
    | zero => intro l hl; rw [List.eq_nil_of_length_eq_zero hl]; exact h0
    | succ n ih =>
      intro l hl
      have hne : l ≠ [] := fun e => by rw [e] at hl; cases hl
      rw [← List.dropLast_concat_getLast hne]
      exact h1 _ _ (ih _ (by simp [hl]))
  exact this l.length l rfl
theorem rows_of {α : Type} (f : α → List T) (sz : Nat) (hf : ∀ a, (f a).length = sz) {a : Addr} : ∀ (l : List α) (C : Nat → List Value), (∀ (i : Nat) (x : α), l[i]? = some x → RTs (memOf w) (f x) (C i) ∧ OneAll (C i) ∧ ∀ j u, (C i)[j]? = some u → w.cell? (a.add (i * sz + j)) = some u) →
    ∃ xs : List Value, xs.length = l.length * sz ∧ At (memOf w) a xs ∧ RTs (memOf w) (l.flatMap f) xs := by
  intro l
  induction l using snoc_ind with
  | h0 => exact fun _ _ => ⟨[], by simp, fun j x h => by simp at h, by simp [RTs]⟩
  | h1 l x ih =>
    intro C h
    obtain ⟨xs, h1, h2, h3⟩ := ih C fun i y hy => h i y (by rw [List.getElem?_append_left (List.getElem?_eq_some_iff.1 hy).1]; exact hy)
    obtain ⟨g1, g2, g3⟩ := h l.length x (by simp)
    have hcl := g1.len
    rw [hf] at hcl
    refine ⟨xs ++ C l.length, by simp [h1, hcl, Nat.add_mul], fun j u hu => ?_, ?_⟩
    · rw [List.getElem?_append] at hu
      split at hu
      · exact h2 j u hu
      · have := g3 _ u hu
        rw [show l.length * sz + (j - xs.length) = j by omega] at this
        exact memOf_at this (g2 u (List.mem_of_getElem? hu))
    · rw [List.flatMap_append]
      refine h3.app ?_
      simpa using g1
theorem opens_slice {α : Type} [Inhabited α] {t e : TypeId} (f : α → List T) (μ : α → Nat) (sz : Nat) (hsz : 0 < sz) (hf : ∀ a, (f a).length = sz) {fuel : Nat} (ht : P.underlying t = some (.slice e)) (hC : P.cellsOf e = sz)
    (hel : ∀ n, n < fuel → Opens enc P w base spare held e f μ n) : Opens enc P w base spare held t (fun l : List α => [.row l.length sz (l.flatMap f)]) (fun l => (l.map μ).sum + 1) fuel := by
  intro cs x h
  rcases DataW.trod_slice ht h with ⟨rfl, rfl⟩ | ⟨a, len, cap, elems, rest, n, hn, rfl, rfl, hb, hl, hm, hlen, hi, _, _⟩
  · refine ⟨[], ?_, fun u hu => by simp at hu; subst hu; rfl, by simp [Rows.uptoBulk]⟩
    simp only [RTs]
    exact ⟨_, _, rfl, rt_nil hsz (by simp only [RT]), rfl⟩
  · rw [hC] at hi
    have hv : ∀ i, i < len → ∃ p : α × List Value, (p.2.length = sz ∧ ∀ j u, p.2[j]? = some u → w.cell? (a.add (i * sz + j)) = some u) ∧ RTs (memOf w) (f p.1) p.2 ∧ OneAll p.2 ∧ ∀ y, elems[i]? = some y → μ p.1 ≤ Rows.uptoBulk y.1 := by
      intro i hil
      have hk := hi i hil
      rw [List.getElem?_eq_getElem (by omega)] at hk
      obtain ⟨cs', h1, h2⟩ := Option.bind_eq_some_iff.1 hk
      obtain ⟨el, h3, h4, h5⟩ := hel n (by omega) _ _ h2
      obtain ⟨_, hlen', hcell⟩ := World.cells?_some h1
      refine ⟨(el, cs'), ⟨hlen', fun j u hu => ?_⟩, h3, h4, fun y hy => ?_⟩
      · have hj : j < sz := by rw [← hlen']; exact (List.getElem?_eq_some_iff.1 hu).1
        rw [← hu, ← hcell j hj, add_add']
      · rw [List.getElem?_eq_getElem (by omega)] at hy
        injection hy with hy
        rw [← hy]; exact h5
    obtain ⟨G, hG⟩ := choose_lt (α := α × List Value) hv
    obtain ⟨xs, g1, g2, g3⟩ := rows_of (w := w) (a := a) f sz hf ((List.range len).map fun i => (G i).1) (fun i => (G i).2) (fun i x hx => by
      have hil : i < len := by have := (List.getElem?_eq_some_iff.1 hx).1; simpa using this
      simp [hil] at hx
      obtain ⟨k1, k2, k3, _⟩ := hG i hil
      rw [← hx]
      exact ⟨k2, k3, k1.2⟩)
    refine ⟨(List.range len).map fun i => (G i).1, ?_, fun u hu => by simp at hu; subst hu; rfl, ?_⟩
    · simp only [RTs]
      refine ⟨_, _, rfl, ?_, rfl⟩
      simp only [RT]
      exact ⟨some a, cap, xs, by simp, by simpa using hl, by simp; omega, hsz, g1, fun _ => ⟨a, rfl, g2⟩, g3⟩
    · have := sum_le μ ((List.range len).map fun i => (G i).1) (elems.map (·.1)) (by simp [hlen]) (fun i y d hy hd => by
        have hil : i < len := by have := (List.getElem?_eq_some_iff.1 hy).1; simpa using this
        simp [hil] at hy
        rw [List.getElem?_map] at hd
        obtain ⟨z, hz, rfl⟩ := Option.map_eq_some_iff.1 hd
        rw [← hy]
        exact (hG i hil).2.2.2 z hz)
      simp only [Rows.uptoBulk]
      omega
theorem opens_int {t : TypeId} {k : IntKind} {fuel : Nat} (ht : P.underlying t = some (.int k)) : Opens enc P w base spare held t (fun i : Int => [.lit (.int k i)]) (fun _ => 1) fuel := by
  intro cs x h
  obtain ⟨i, rfl, rfl, _⟩ := DataW.trod_int ht h
  exact ⟨i, by simp [RTs, RT], fun u hu => by simp at hu; subst hu; rfl, bulk_one _⟩
end
/-- from a walk to the call: every law that takes trees and tells true -/
theorem law_call {P : Program} {f : FuncId} {ts : List T} {vs : List Value} {W : World} (h : AF P f ts (· = .lit (.bool true))) (hv : RTs (memOf W) ts vs) (hG : Glob W := by first | assumption | (intro x h; simp [globTab] at h)) : Calls P f vs.toArray W fun e W' => e = .returned (.bool true) ∧ Below W.heap.size W W' :=
  (h.2 (memOf W) W vs hG (memOf_ok W) hv).mono fun e w' ⟨v, r, M', he, hr, _, _, hrt, hb⟩ => by
    subst hr
    simp only [RT] at hrt
    rw [he, hrt]
    exact ⟨rfl, hb⟩
end Go.Proofs.YtllgibfmddihgaaDoor
namespace Go.Proofs.YtllgibfmddihgaaDoor
open Go.ChangeShapes Go.WideShapes Go.ChangeAt Go.RowKit Go.Deep
theorem listN2 {α : Type} {l : List α} (h : l.length = 2) : ∃ a b, l = [a, b] := match l, h with | [a, b], _ => ⟨a, b, rfl⟩
theorem listN3 {α : Type} {l : List α} (h : l.length = 3) : ∃ a b c, l = [a, b, c] := match l, h with | [a, b, c], _ => ⟨a, b, c, rfl⟩
theorem listN4 {α : Type} {l : List α} (h : l.length = 4) : ∃ a b c d, l = [a, b, c, d] := match l, h with | [a, b, c, d], _ => ⟨a, b, c, d, rfl⟩
theorem listN5 {α : Type} {l : List α} (h : l.length = 5) : ∃ a b c d e, l = [a, b, c, d, e] := match l, h with | [a, b, c, d, e], _ => ⟨a, b, c, d, e, rfl⟩
theorem listN6 {α : Type} {l : List α} (h : l.length = 6) : ∃ a b c d e f, l = [a, b, c, d, e, f] := match l, h with | [a, b, c, d, e, f], _ => ⟨a, b, c, d, e, f, rfl⟩
theorem listN8 {α : Type} {l : List α} (h : l.length = 8) : ∃ a b c d e f g i, l = [a, b, c, d, e, f, g, i] := match l, h with | [a, b, c, d, e, f, g, i], _ => ⟨a, b, c, d, e, f, g, i, rfl⟩
theorem rts_seg {M : Mm} {ts us : List T} {cs : List Value} {o c : Nat} (h : RTs M ts ((cs.drop o).take c)) (h' : RTs M us (cs.drop (o + c))) : RTs M (ts ++ us) (cs.drop o) := by
  have := h.app h'
  rwa [← List.drop_drop, List.take_append_drop] at this
theorem rts_end {M : Mm} {cs : List Value} {o : Nat} (h : cs.length = o) : RTs M [] (cs.drop o) := by rw [← h, List.drop_length]; simp [RTs]
theorem one_seg {cs : List Value} {o c : Nat} (h : OneAll ((cs.drop o).take c)) (h' : OneAll (cs.drop (o + c))) : OneAll (cs.drop o) := by
  have := h.app h'
  rwa [← List.drop_drop, List.take_append_drop] at this
theorem one_end {cs : List Value} {o : Nat} (h : cs.length = o) : OneAll (cs.drop o) := by rw [← h, List.drop_length]; intro x hx; simp at hx
section
variable {H : Type} {enc : TypeId × Value → H} {P : Program} {w : World} {base : Nat} {spare : Nat → Bool} {held : Bool}
theorem opens_strz {t : TypeId} {fuel : Nat} (ht : P.underlying t = some .string) : Opens enc P w base spare held t (fun s : ByteArray => [.lit (.string s)]) (fun s => s.size + 1) fuel := by
  intro cs x h
  obtain ⟨i, rfl, rfl, _⟩ := DataW.trod_string ht h
  exact ⟨i, by simp [RTs, RT], fun u hu => by simp at hu; subst hu; rfl, by simp [Rows.uptoBulk]⟩
theorem cn_int : Tryd.prog.cellsOf 3 = 1 := by kernel_rfl
theorem cn_str : Tryd.prog.cellsOf 9 = 1 := by kernel_rfl
theorem cn_Y : Tryd.prog.cellsOf 64 = 3 := by kernel_rfl
theorem opensY : ∀ fuel, Opens enc Tryd.prog w base spare held 64 Y.ts Y.size fuel := by
  intro fuel
  induction fuel using Nat.strongRecOn with
  | _ fuel ih =>
    intro cs x h
    obtain ⟨ys, n, hn, rfl, hlen, hyl, hf⟩ := DataW.trod_struct Tryd.underlying64 h
    rw [cn_Y] at hlen
    obtain ⟨y0, y1, y2, rfl⟩ := listN3 hyl
    have f0 : DataW.trod enc Tryd.prog w base spare held n 3 ((cs.drop 0).take (Tryd.prog.cellsOf 3)) = some y0 := hf 0 _ rfl
    have f1 : DataW.trod enc Tryd.prog w base spare held n 9 ((cs.drop 1).take (Tryd.prog.cellsOf 9)) = some y1 := hf 1 _ rfl
    have f2 : DataW.trod enc Tryd.prog w base spare held n 37 ((cs.drop 2).take (Tryd.prog.cellsOf 37)) = some y2 := hf 2 _ rfl
    rw [cn_int] at f0
    rw [cn_str] at f1
    rw [show Tryd.prog.cellsOf 37 = 1 by kernel_rfl] at f2
    obtain ⟨a0, r0, o0, -⟩ := opens_int Tryd.underlying3 _ _ f0
    obtain ⟨a1, r1, o1, m1⟩ := opens_strz Tryd.underlying9 _ _ f1
    obtain ⟨a2, r2, o2, m2⟩ := opens_slice Y.ts Y.size 3 (by omega) Y.ts_len Tryd.underlying37 cn_Y (fun m hm => ih m (by omega)) _ _ f2
    refine ⟨.mk a0 a1 a2, ?_, ?_, ?_⟩
    · have := rts_seg r0 (rts_seg r1 (rts_seg r2 (rts_end hlen)))
      simpa [Y.ts, Y.all_eq] using this
    · have := one_seg o0 (one_seg o1 (one_seg o2 (one_end hlen)))
      simpa using this
    · simp only [Y.size, Y.sizes_sum, List.map_cons, List.map_nil, Rows.uptoBulk, Rows.uptoBulkAll] at m1 m2 ⊢
      omega
end
end Go.Proofs.YtllgibfmddihgaaDoor
namespace Go.Proofs.YtllgibfmddihgaaDoor.Mass
open Go.ChangeShapes Go.WideShapes Go.ChangeAt Go.RowKit Go.Deep
instance : Inhabited V := ⟨.mk 0 0 ⟨#[]⟩ []⟩
section
variable {H : Type} {enc : TypeId × Value → H} {P : Program} {w : World} {base : Nat} {spare : Nat → Bool} {held : Bool}
theorem opens_far {t : TypeId} {fuel : Nat} (ht : P.underlying t = some (.int .i64)) : Opens enc P w base spare held t (fun i : Int => [.lit (.int .i64 i)]) far fuel := by
  intro cs x h
  obtain ⟨i, rfl, rfl, hw⟩ := DataW.trod_int ht h
  have hin : inI i := by
    unfold inI
    simp [Lit.wf, IntKind.min, IntKind.max, IntKind.bits, IntKind.signed] at hw
    omega
  exact ⟨i, by simp [RTs, RT], fun u hu => by simp at hu; subst hu; rfl, by unfold far; rw [if_pos hin]; exact bulk_one _⟩
end
section
variable {H : Type} {enc : TypeId × Value → H} {w : World} {base : Nat} {spare : Nat → Bool} {held : Bool}
theorem opensY : ∀ fuel, Opens enc Tryd.prog w base spare held 64 Y.ts Y.mass fuel := by
  intro fuel
  induction fuel using Nat.strongRecOn with
  | _ fuel ih =>
    intro cs x h
    obtain ⟨ys, n, hn, rfl, hlen, hyl, hf⟩ := DataW.trod_struct Tryd.underlying64 h
    rw [cn_Y] at hlen
    obtain ⟨y0, y1, y2, rfl⟩ := listN3 hyl
    have f0 : DataW.trod enc Tryd.prog w base spare held n 3 ((cs.drop 0).take (Tryd.prog.cellsOf 3)) = some y0 := hf 0 _ rfl
    have f1 : DataW.trod enc Tryd.prog w base spare held n 9 ((cs.drop 1).take (Tryd.prog.cellsOf 9)) = some y1 := hf 1 _ rfl
    have f2 : DataW.trod enc Tryd.prog w base spare held n 37 ((cs.drop 2).take (Tryd.prog.cellsOf 37)) = some y2 := hf 2 _ rfl
    rw [cn_int] at f0
    rw [cn_str] at f1
    rw [show Tryd.prog.cellsOf 37 = 1 by kernel_rfl] at f2
    obtain ⟨a0, r0, o0, m0⟩ := opens_far Tryd.underlying3 _ _ f0
    obtain ⟨a1, r1, o1, m1⟩ := opens_strz Tryd.underlying9 _ _ f1
    obtain ⟨a2, r2, o2, m2⟩ := opens_slice Y.ts Y.mass 3 (by omega) Y.ts_len Tryd.underlying37 cn_Y (fun m hm => ih m (by omega)) _ _ f2
    refine ⟨.mk a0 a1 a2, ?_, ?_, ?_⟩
    · have := rts_seg r0 (rts_seg r1 (rts_seg r2 (rts_end hlen)))
      simpa [Y.ts, Y.all_eq] using this
    · have := one_seg o0 (one_seg o1 (one_seg o2 (one_end hlen)))
      simpa using this
    · simp only [Y.mass, Y.masses_sum, List.map_cons, List.map_nil, Rows.uptoBulk, Rows.uptoBulkAll] at m0 m1 m2 ⊢
      omega
theorem cn_Pat : Tryd.prog.cellsOf 109 = 4 := by kernel_rfl
theorem opensPat : ∀ fuel, Opens enc Tryd.prog w base spare held 109 V.ts V.mass fuel := by
  intro fuel
  induction fuel using Nat.strongRecOn with
  | _ fuel ih =>
    intro cs x h
    obtain ⟨ys, n, hn, rfl, hlen, hyl, hf⟩ := DataW.trod_struct Tryd.underlying109 h
    rw [cn_Pat] at hlen
    obtain ⟨y0, y1, y2, y3, rfl⟩ := listN4 hyl
    have f0 : DataW.trod enc Tryd.prog w base spare held n 3 ((cs.drop 0).take (Tryd.prog.cellsOf 3)) = some y0 := hf 0 _ rfl
    have f1 : DataW.trod enc Tryd.prog w base spare held n 3 ((cs.drop 1).take (Tryd.prog.cellsOf 3)) = some y1 := hf 1 _ rfl
    have f2 : DataW.trod enc Tryd.prog w base spare held n 9 ((cs.drop 2).take (Tryd.prog.cellsOf 9)) = some y2 := hf 2 _ rfl
    have f3 : DataW.trod enc Tryd.prog w base spare held n 107 ((cs.drop 3).take (Tryd.prog.cellsOf 107)) = some y3 := hf 3 _ rfl
    rw [cn_int] at f0 f1
    rw [cn_str] at f2
    rw [show Tryd.prog.cellsOf 107 = 1 by kernel_rfl] at f3
    obtain ⟨a0, r0, o0, m0⟩ := opens_far Tryd.underlying3 _ _ f0
    obtain ⟨a1, r1, o1, m1⟩ := opens_far Tryd.underlying3 _ _ f1
    obtain ⟨a2, r2, o2, m2⟩ := opens_strz Tryd.underlying9 _ _ f2
    obtain ⟨a3, r3, o3, m3⟩ := opens_slice V.ts V.mass 4 (by omega) V.ts_len Tryd.underlying107 cn_Pat (fun m hm => ih m (by omega)) _ _ f3
    refine ⟨.mk a0 a1 a2 a3, ?_, ?_, ?_⟩
    · have := rts_seg r0 (rts_seg r1 (rts_seg r2 (rts_seg r3 (rts_end hlen))))
      simpa [V.ts, V.all_eq] using this
    · have := one_seg o0 (one_seg o1 (one_seg o2 (one_seg o3 (one_end hlen))))
      simpa using this
    · simp only [V.mass, V.masses_sum, List.map_cons, List.map_nil, Rows.uptoBulk, Rows.uptoBulkAll] at m0 m1 m2 m3 ⊢
      omega
theorem cn_Ex : Tryd.prog.cellsOf 40 = 8 := by kernel_rfl
theorem cn_Ar : Tryd.prog.cellsOf 111 = 12 := by kernel_rfl
theorem opensAr {fuel : Nat} (ih : ∀ m, m < fuel → Opens enc Tryd.prog w base spare held 40 Ex.ts Ex.mass m) : Opens enc Tryd.prog w base spare held 111 Ar.ts Ar.mass fuel := by
  intro cs x h
  obtain ⟨ys, n, hn, rfl, hlen, hyl, hf⟩ := DataW.trod_struct Tryd.underlying111 h
  rw [cn_Ar] at hlen
  obtain ⟨y0, y1, rfl⟩ := listN2 hyl
  have f0 : DataW.trod enc Tryd.prog w base spare held n 109 ((cs.drop 0).take (Tryd.prog.cellsOf 109)) = some y0 := hf 0 _ rfl
  have f1 : DataW.trod enc Tryd.prog w base spare held n 40 ((cs.drop 4).take (Tryd.prog.cellsOf 40)) = some y1 := hf 1 _ rfl
  rw [cn_Pat] at f0
  rw [cn_Ex] at f1
  obtain ⟨a0, r0, o0, m0⟩ := opensPat _ _ _ f0
  obtain ⟨a1, r1, o1, m1⟩ := ih n (by omega) _ _ f1
  refine ⟨.mk a0 a1, ?_, ?_, ?_⟩
  · have := rts_seg r0 (rts_seg r1 (rts_end hlen))
    simpa [Ar.ts] using this
  · have := one_seg o0 (one_seg o1 (one_end hlen))
    simpa using this
  · simp only [Ar.mass, List.map_cons, List.map_nil, Rows.uptoBulk, Rows.uptoBulkAll] at m0 m1 ⊢
    omega
theorem opensEx : ∀ fuel, Opens enc Tryd.prog w base spare held 40 Ex.ts Ex.mass fuel := by
  intro fuel
  induction fuel using Nat.strongRecOn with
  | _ fuel ih =>
    intro cs x h
    obtain ⟨ys, n, hn, rfl, hlen, hyl, hf⟩ := DataW.trod_struct Tryd.underlying40 h
    rw [cn_Ex] at hlen
    obtain ⟨y0, y1, y2, y3, y4, y5, y6, y7, rfl⟩ := listN8 hyl
    have f0 : DataW.trod enc Tryd.prog w base spare held n 3 ((cs.drop 0).take (Tryd.prog.cellsOf 3)) = some y0 := hf 0 _ rfl
    rw [show Tryd.prog.cellsOf 3 = 1 by kernel_rfl] at f0
    have f1 : DataW.trod enc Tryd.prog w base spare held n 3 ((cs.drop 1).take (Tryd.prog.cellsOf 3)) = some y1 := hf 1 _ rfl
    rw [show Tryd.prog.cellsOf 3 = 1 by kernel_rfl] at f1
    have f2 : DataW.trod enc Tryd.prog w base spare held n 9 ((cs.drop 2).take (Tryd.prog.cellsOf 9)) = some y2 := hf 2 _ rfl
    rw [show Tryd.prog.cellsOf 9 = 1 by kernel_rfl] at f2
    have f3 : DataW.trod enc Tryd.prog w base spare held n 36 ((cs.drop 3).take (Tryd.prog.cellsOf 36)) = some y3 := hf 3 _ rfl
    rw [show Tryd.prog.cellsOf 36 = 1 by kernel_rfl] at f3
    have f4 : DataW.trod enc Tryd.prog w base spare held n 37 ((cs.drop 4).take (Tryd.prog.cellsOf 37)) = some y4 := hf 4 _ rfl
    rw [show Tryd.prog.cellsOf 37 = 1 by kernel_rfl] at f4
    have f5 : DataW.trod enc Tryd.prog w base spare held n 31 ((cs.drop 5).take (Tryd.prog.cellsOf 31)) = some y5 := hf 5 _ rfl
    rw [show Tryd.prog.cellsOf 31 = 1 by kernel_rfl] at f5
    have f6 : DataW.trod enc Tryd.prog w base spare held n 38 ((cs.drop 6).take (Tryd.prog.cellsOf 38)) = some y6 := hf 6 _ rfl
    rw [show Tryd.prog.cellsOf 38 = 1 by kernel_rfl] at f6
    have f7 : DataW.trod enc Tryd.prog w base spare held n 3 ((cs.drop 7).take (Tryd.prog.cellsOf 3)) = some y7 := hf 7 _ rfl
    rw [show Tryd.prog.cellsOf 3 = 1 by kernel_rfl] at f7
    obtain ⟨a0, r0, o0, m0⟩ := opens_far Tryd.underlying3 _ _ f0
    obtain ⟨a1, r1, o1, m1⟩ := opens_far Tryd.underlying3 _ _ f1
    obtain ⟨a2, r2, o2, m2⟩ := opens_strz Tryd.underlying9 _ _ f2
    obtain ⟨a3, r3, o3, m3⟩ := opens_slice strTs (fun s => s.size + 1) 1 (by omega) (fun _ => rfl) Tryd.underlying36 cn_str (fun m _ => opens_strz Tryd.underlying9) _ _ f3
    obtain ⟨a4, r4, o4, m4⟩ := opens_slice Y.ts Y.mass 3 (by omega) Y.ts_len Tryd.underlying37 cn_Y (fun m _ => opensY m) _ _ f4
    obtain ⟨a5, r5, o5, m5⟩ := opens_slice Ex.ts Ex.mass 8 (by omega) Ex.ts_len Tryd.underlying31 cn_Ex (fun m hm => ih m (by omega)) _ _ f5
    obtain ⟨a6, r6, o6, m6⟩ := opens_slice Ar.ts Ar.mass 12 (by omega) Ar.ts_len Tryd.underlying38 cn_Ar (fun m hm => opensAr (fun j hj => ih j (by omega))) _ _ f6
    obtain ⟨a7, r7, o7, m7⟩ := opens_far Tryd.underlying3 _ _ f7
    refine ⟨.mk a0 a1 a2 a3 a4 a5 a6 a7, ?_, ?_, ?_⟩
    · have := rts_seg r0 (rts_seg r1 (rts_seg r2 (rts_seg r3 (rts_seg r4 (rts_seg r5 (rts_seg r6 (rts_seg r7 (rts_end hlen))))))))
      simpa [Ex.ts, Ex.all_eq, Ar.all_eq, Y.row, Y.all_eq, strRow] using this
    · have := one_seg o0 (one_seg o1 (one_seg o2 (one_seg o3 (one_seg o4 (one_seg o5 (one_seg o6 (one_seg o7 (one_end hlen))))))))
      simpa using this
    · simp only [Ex.mass, strSize, Y.masses_sum, Ex.masses_sum, Ar.masses_sum, List.map_cons, List.map_nil, Rows.uptoBulk, Rows.uptoBulkAll] at m0 m1 m2 m3 m4 m5 m6 m7 ⊢
      omega
theorem cn_Us : Tryd.prog.cellsOf 48 = 3 := by kernel_rfl
theorem opensUs (fuel : Nat) : Opens enc Tryd.prog w base spare held 48 Us.ts Us.mass fuel := by
  intro cs x h
  obtain ⟨ys, n, hn, rfl, hlen, hyl, hf⟩ := DataW.trod_struct Tryd.underlying48 h
  rw [cn_Us] at hlen
  obtain ⟨y0, y1, y2, rfl⟩ := listN3 hyl
  have f0 : DataW.trod enc Tryd.prog w base spare held n 9 ((cs.drop 0).take (Tryd.prog.cellsOf 9)) = some y0 := hf 0 _ rfl
  rw [show Tryd.prog.cellsOf 9 = 1 by kernel_rfl] at f0
  have f1 : DataW.trod enc Tryd.prog w base spare held n 3 ((cs.drop 1).take (Tryd.prog.cellsOf 3)) = some y1 := hf 1 _ rfl
  rw [show Tryd.prog.cellsOf 3 = 1 by kernel_rfl] at f1
  have f2 : DataW.trod enc Tryd.prog w base spare held n 3 ((cs.drop 2).take (Tryd.prog.cellsOf 3)) = some y2 := hf 2 _ rfl
  rw [show Tryd.prog.cellsOf 3 = 1 by kernel_rfl] at f2
  obtain ⟨a0, r0, o0, m0⟩ := opens_strz Tryd.underlying9 _ _ f0
  obtain ⟨a1, r1, o1, m1⟩ := opens_far Tryd.underlying3 _ _ f1
  obtain ⟨a2, r2, o2, m2⟩ := opens_far Tryd.underlying3 _ _ f2
  refine ⟨⟨a0, a1, a2⟩, ?_, ?_, ?_⟩
  · have := rts_seg r0 (rts_seg r1 (rts_seg r2 (rts_end hlen)))
    simpa [Us.ts] using this
  · have := one_seg o0 (one_seg o1 (one_seg o2 (one_end hlen)))
    simpa using this
  · simp only [Us.mass, List.map_cons, List.map_nil, Rows.uptoBulk, Rows.uptoBulkAll] at m0 m1 m2 ⊢
    omega
theorem cn_Mk : Tryd.prog.cellsOf 140 = 2 := by kernel_rfl
theorem opensMk (fuel : Nat) : Opens enc Tryd.prog w base spare held 140 Mk.ts Mk.mass fuel := by
  intro cs x h
  obtain ⟨ys, n, hn, rfl, hlen, hyl, hf⟩ := DataW.trod_struct Tryd.underlying140 h
  rw [cn_Mk] at hlen
  obtain ⟨y0, y1, rfl⟩ := listN2 hyl
  have f0 : DataW.trod enc Tryd.prog w base spare held n 9 ((cs.drop 0).take (Tryd.prog.cellsOf 9)) = some y0 := hf 0 _ rfl
  rw [show Tryd.prog.cellsOf 9 = 1 by kernel_rfl] at f0
  have f1 : DataW.trod enc Tryd.prog w base spare held n 37 ((cs.drop 1).take (Tryd.prog.cellsOf 37)) = some y1 := hf 1 _ rfl
  rw [show Tryd.prog.cellsOf 37 = 1 by kernel_rfl] at f1
  obtain ⟨a0, r0, o0, m0⟩ := opens_strz Tryd.underlying9 _ _ f0
  obtain ⟨a1, r1, o1, m1⟩ := opens_slice Y.ts Y.mass 3 (by omega) Y.ts_len Tryd.underlying37 cn_Y (fun m _ => opensY m) _ _ f1
  refine ⟨⟨a0, a1⟩, ?_, ?_, ?_⟩
  · have := rts_seg r0 (rts_seg r1 (rts_end hlen))
    simpa [Mk.ts, Y.all_eq, Y.row] using this
  · have := one_seg o0 (one_seg o1 (one_end hlen))
    simpa using this
  · simp only [Mk.mass, List.map_cons, List.map_nil, Rows.uptoBulk, Rows.uptoBulkAll] at m0 m1 ⊢
    omega
theorem cn_Da : Tryd.prog.cellsOf 55 = 3 := by kernel_rfl
theorem opensDa (fuel : Nat) : Opens enc Tryd.prog w base spare held 55 Da.ts Da.mass fuel := by
  intro cs x h
  obtain ⟨ys, n, hn, rfl, hlen, hyl, hf⟩ := DataW.trod_struct Tryd.underlying55 h
  rw [cn_Da] at hlen
  obtain ⟨y0, y1, y2, rfl⟩ := listN3 hyl
  have f0 : DataW.trod enc Tryd.prog w base spare held n 9 ((cs.drop 0).take (Tryd.prog.cellsOf 9)) = some y0 := hf 0 _ rfl
  rw [show Tryd.prog.cellsOf 9 = 1 by kernel_rfl] at f0
  have f1 : DataW.trod enc Tryd.prog w base spare held n 36 ((cs.drop 1).take (Tryd.prog.cellsOf 36)) = some y1 := hf 1 _ rfl
  rw [show Tryd.prog.cellsOf 36 = 1 by kernel_rfl] at f1
  have f2 : DataW.trod enc Tryd.prog w base spare held n 53 ((cs.drop 2).take (Tryd.prog.cellsOf 53)) = some y2 := hf 2 _ rfl
  rw [show Tryd.prog.cellsOf 53 = 1 by kernel_rfl] at f2
  obtain ⟨a0, r0, o0, m0⟩ := opens_strz Tryd.underlying9 _ _ f0
  obtain ⟨a1, r1, o1, m1⟩ := opens_slice strTs (fun s => s.size + 1) 1 (by omega) (fun _ => rfl) Tryd.underlying36 cn_str (fun m _ => opens_strz Tryd.underlying9) _ _ f1
  obtain ⟨a2, r2, o2, m2⟩ := opens_slice Mk.ts Mk.mass 2 (by omega) Mk.ts_len Tryd.underlying53 cn_Mk (fun m _ => opensMk m) _ _ f2
  refine ⟨⟨a0, a1, a2⟩, ?_, ?_, ?_⟩
  · have := rts_seg r0 (rts_seg r1 (rts_seg r2 (rts_end hlen)))
    simpa [Da.ts, Mk.row, strRow] using this
  · have := one_seg o0 (one_seg o1 (one_seg o2 (one_end hlen)))
    simpa using this
  · simp only [Da.mass, strSize, List.map_cons, List.map_nil, Rows.uptoBulk, Rows.uptoBulkAll] at m0 m1 m2 ⊢
    omega
theorem cn_Fu : Tryd.prog.cellsOf 66 = 15 := by kernel_rfl
theorem opensFu (fuel : Nat) : Opens enc Tryd.prog w base spare held 66 Fu.ts Fu.mass fuel := by
  intro cs x h
  obtain ⟨ys, n, hn, rfl, hlen, hyl, hf⟩ := DataW.trod_struct Tryd.underlying66 h
  rw [cn_Fu] at hlen
  obtain ⟨y0, y1, y2, y3, y4, y5, rfl⟩ := listN6 hyl
  have f0 : DataW.trod enc Tryd.prog w base spare held n 9 ((cs.drop 0).take (Tryd.prog.cellsOf 9)) = some y0 := hf 0 _ rfl
  rw [show Tryd.prog.cellsOf 9 = 1 by kernel_rfl] at f0
  have f1 : DataW.trod enc Tryd.prog w base spare held n 36 ((cs.drop 1).take (Tryd.prog.cellsOf 36)) = some y1 := hf 1 _ rfl
  rw [show Tryd.prog.cellsOf 36 = 1 by kernel_rfl] at f1
  have f2 : DataW.trod enc Tryd.prog w base spare held n 36 ((cs.drop 2).take (Tryd.prog.cellsOf 36)) = some y2 := hf 2 _ rfl
  rw [show Tryd.prog.cellsOf 36 = 1 by kernel_rfl] at f2
  have f3 : DataW.trod enc Tryd.prog w base spare held n 37 ((cs.drop 3).take (Tryd.prog.cellsOf 37)) = some y3 := hf 3 _ rfl
  rw [show Tryd.prog.cellsOf 37 = 1 by kernel_rfl] at f3
  have f4 : DataW.trod enc Tryd.prog w base spare held n 64 ((cs.drop 4).take (Tryd.prog.cellsOf 64)) = some y4 := hf 4 _ rfl
  rw [show Tryd.prog.cellsOf 64 = 3 by kernel_rfl] at f4
  have f5 : DataW.trod enc Tryd.prog w base spare held n 40 ((cs.drop 7).take (Tryd.prog.cellsOf 40)) = some y5 := hf 5 _ rfl
  rw [show Tryd.prog.cellsOf 40 = 8 by kernel_rfl] at f5
  obtain ⟨a0, r0, o0, m0⟩ := opens_strz Tryd.underlying9 _ _ f0
  obtain ⟨a1, r1, o1, m1⟩ := opens_slice strTs (fun s => s.size + 1) 1 (by omega) (fun _ => rfl) Tryd.underlying36 cn_str (fun m _ => opens_strz Tryd.underlying9) _ _ f1
  obtain ⟨a2, r2, o2, m2⟩ := opens_slice strTs (fun s => s.size + 1) 1 (by omega) (fun _ => rfl) Tryd.underlying36 cn_str (fun m _ => opens_strz Tryd.underlying9) _ _ f2
  obtain ⟨a3, r3, o3, m3⟩ := opens_slice Y.ts Y.mass 3 (by omega) Y.ts_len Tryd.underlying37 cn_Y (fun m _ => opensY m) _ _ f3
  obtain ⟨a4, r4, o4, m4⟩ := opensY _ _ _ f4
  obtain ⟨a5, r5, o5, m5⟩ := opensEx _ _ _ f5
  refine ⟨⟨a0, a1, a2, a3, a4, a5⟩, ?_, ?_, ?_⟩
  · have := rts_seg r0 (rts_seg r1 (rts_seg r2 (rts_seg r3 (rts_seg r4 (rts_seg r5 (rts_end hlen))))))
    simpa [Fu.ts, Y.all_eq, Y.row, strRow] using this
  · have := one_seg o0 (one_seg o1 (one_seg o2 (one_seg o3 (one_seg o4 (one_seg o5 (one_end hlen))))))
    simpa using this
  · simp only [Fu.mass, strSize, List.map_cons, List.map_nil, Rows.uptoBulk, Rows.uptoBulkAll] at m0 m1 m2 m3 m4 m5 ⊢
    omega
theorem cn_Tr : Tryd.prog.cellsOf 58 = 2 := by kernel_rfl
theorem opensTr (fuel : Nat) : Opens enc Tryd.prog w base spare held 58 Tr.ts Tr.mass fuel := by
  intro cs x h
  obtain ⟨ys, n, hn, rfl, hlen, hyl, hf⟩ := DataW.trod_struct Tryd.underlying58 h
  rw [cn_Tr] at hlen
  obtain ⟨y0, y1, rfl⟩ := listN2 hyl
  have f0 : DataW.trod enc Tryd.prog w base spare held n 9 ((cs.drop 0).take (Tryd.prog.cellsOf 9)) = some y0 := hf 0 _ rfl
  rw [show Tryd.prog.cellsOf 9 = 1 by kernel_rfl] at f0
  have f1 : DataW.trod enc Tryd.prog w base spare held n 26 ((cs.drop 1).take (Tryd.prog.cellsOf 26)) = some y1 := hf 1 _ rfl
  rw [show Tryd.prog.cellsOf 26 = 1 by kernel_rfl] at f1
  obtain ⟨a0, r0, o0, m0⟩ := opens_strz Tryd.underlying9 _ _ f0
  obtain ⟨a1, r1, o1, m1⟩ := opens_slice Fu.ts Fu.mass 15 (by omega) Fu.ts_len Tryd.underlying26 cn_Fu (fun m _ => opensFu m) _ _ f1
  refine ⟨⟨a0, a1⟩, ?_, ?_, ?_⟩
  · have := rts_seg r0 (rts_seg r1 (rts_end hlen))
    simpa [Tr.ts, Fu.row] using this
  · have := one_seg o0 (one_seg o1 (one_end hlen))
    simpa using this
  · simp only [Tr.mass, List.map_cons, List.map_nil, Rows.uptoBulk, Rows.uptoBulkAll] at m0 m1 ⊢
    omega
theorem cn_Im : Tryd.prog.cellsOf 61 = 3 := by kernel_rfl
theorem opensIm (fuel : Nat) : Opens enc Tryd.prog w base spare held 61 Im.ts Im.mass fuel := by
  intro cs x h
  obtain ⟨ys, n, hn, rfl, hlen, hyl, hf⟩ := DataW.trod_struct Tryd.underlying61 h
  rw [cn_Im] at hlen
  obtain ⟨y0, y1, y2, rfl⟩ := listN3 hyl
  have f0 : DataW.trod enc Tryd.prog w base spare held n 9 ((cs.drop 0).take (Tryd.prog.cellsOf 9)) = some y0 := hf 0 _ rfl
  rw [show Tryd.prog.cellsOf 9 = 1 by kernel_rfl] at f0
  have f1 : DataW.trod enc Tryd.prog w base spare held n 9 ((cs.drop 1).take (Tryd.prog.cellsOf 9)) = some y1 := hf 1 _ rfl
  rw [show Tryd.prog.cellsOf 9 = 1 by kernel_rfl] at f1
  have f2 : DataW.trod enc Tryd.prog w base spare held n 26 ((cs.drop 2).take (Tryd.prog.cellsOf 26)) = some y2 := hf 2 _ rfl
  rw [show Tryd.prog.cellsOf 26 = 1 by kernel_rfl] at f2
  obtain ⟨a0, r0, o0, m0⟩ := opens_strz Tryd.underlying9 _ _ f0
  obtain ⟨a1, r1, o1, m1⟩ := opens_strz Tryd.underlying9 _ _ f1
  obtain ⟨a2, r2, o2, m2⟩ := opens_slice Fu.ts Fu.mass 15 (by omega) Fu.ts_len Tryd.underlying26 cn_Fu (fun m _ => opensFu m) _ _ f2
  refine ⟨⟨a0, a1, a2⟩, ?_, ?_, ?_⟩
  · have := rts_seg r0 (rts_seg r1 (rts_seg r2 (rts_end hlen)))
    simpa [Im.ts, Fu.row] using this
  · have := one_seg o0 (one_seg o1 (one_seg o2 (one_end hlen)))
    simpa using this
  · simp only [Im.mass, List.map_cons, List.map_nil, Rows.uptoBulk, Rows.uptoBulkAll] at m0 m1 m2 ⊢
    omega
theorem cn_Ac : Tryd.prog.cellsOf 69 = 14 := by kernel_rfl
theorem opensAc (fuel : Nat) : Opens enc Tryd.prog w base spare held 69 Ac.ts Ac.mass fuel := by
  intro cs x h
  obtain ⟨ys, n, hn, rfl, hlen, hyl, hf⟩ := DataW.trod_struct Tryd.underlying69 h
  rw [cn_Ac] at hlen
  obtain ⟨y0, y1, y2, y3, y4, rfl⟩ := listN5 hyl
  have f0 : DataW.trod enc Tryd.prog w base spare held n 9 ((cs.drop 0).take (Tryd.prog.cellsOf 9)) = some y0 := hf 0 _ rfl
  rw [show Tryd.prog.cellsOf 9 = 1 by kernel_rfl] at f0
  have f1 : DataW.trod enc Tryd.prog w base spare held n 36 ((cs.drop 1).take (Tryd.prog.cellsOf 36)) = some y1 := hf 1 _ rfl
  rw [show Tryd.prog.cellsOf 36 = 1 by kernel_rfl] at f1
  have f2 : DataW.trod enc Tryd.prog w base spare held n 37 ((cs.drop 2).take (Tryd.prog.cellsOf 37)) = some y2 := hf 2 _ rfl
  rw [show Tryd.prog.cellsOf 37 = 1 by kernel_rfl] at f2
  have f3 : DataW.trod enc Tryd.prog w base spare held n 64 ((cs.drop 3).take (Tryd.prog.cellsOf 64)) = some y3 := hf 3 _ rfl
  rw [show Tryd.prog.cellsOf 64 = 3 by kernel_rfl] at f3
  have f4 : DataW.trod enc Tryd.prog w base spare held n 40 ((cs.drop 6).take (Tryd.prog.cellsOf 40)) = some y4 := hf 4 _ rfl
  rw [show Tryd.prog.cellsOf 40 = 8 by kernel_rfl] at f4
  obtain ⟨a0, r0, o0, m0⟩ := opens_strz Tryd.underlying9 _ _ f0
  obtain ⟨a1, r1, o1, m1⟩ := opens_slice strTs (fun s => s.size + 1) 1 (by omega) (fun _ => rfl) Tryd.underlying36 cn_str (fun m _ => opens_strz Tryd.underlying9) _ _ f1
  obtain ⟨a2, r2, o2, m2⟩ := opens_slice Y.ts Y.mass 3 (by omega) Y.ts_len Tryd.underlying37 cn_Y (fun m _ => opensY m) _ _ f2
  obtain ⟨a3, r3, o3, m3⟩ := opensY _ _ _ f3
  obtain ⟨a4, r4, o4, m4⟩ := opensEx _ _ _ f4
  refine ⟨⟨a0, a1, a2, a3, a4⟩, ?_, ?_, ?_⟩
  · have := rts_seg r0 (rts_seg r1 (rts_seg r2 (rts_seg r3 (rts_seg r4 (rts_end hlen)))))
    simpa [Ac.ts, Y.all_eq, Y.row, strRow] using this
  · have := one_seg o0 (one_seg o1 (one_seg o2 (one_seg o3 (one_seg o4 (one_end hlen)))))
    simpa using this
  · simp only [Ac.mass, strSize, List.map_cons, List.map_nil, Rows.uptoBulk, Rows.uptoBulkAll] at m0 m1 m2 m3 m4 ⊢
    omega
theorem cn_Pr : Tryd.prog.cellsOf 29 = 8 := by kernel_rfl
theorem opensPr (fuel : Nat) : Opens enc Tryd.prog w base spare held 29 Pr.ts Pr.mass fuel := by
  intro cs x h
  obtain ⟨ys, n, hn, rfl, hlen, hyl, hf⟩ := DataW.trod_struct Tryd.underlying29 h
  rw [cn_Pr] at hlen
  obtain ⟨y0, y1, y2, y3, y4, y5, y6, y7, rfl⟩ := listN8 hyl
  have f0 : DataW.trod enc Tryd.prog w base spare held n 9 ((cs.drop 0).take (Tryd.prog.cellsOf 9)) = some y0 := hf 0 _ rfl
  rw [show Tryd.prog.cellsOf 9 = 1 by kernel_rfl] at f0
  have f1 : DataW.trod enc Tryd.prog w base spare held n 3 ((cs.drop 1).take (Tryd.prog.cellsOf 3)) = some y1 := hf 1 _ rfl
  rw [show Tryd.prog.cellsOf 3 = 1 by kernel_rfl] at f1
  have f2 : DataW.trod enc Tryd.prog w base spare held n 22 ((cs.drop 2).take (Tryd.prog.cellsOf 22)) = some y2 := hf 2 _ rfl
  rw [show Tryd.prog.cellsOf 22 = 1 by kernel_rfl] at f2
  have f3 : DataW.trod enc Tryd.prog w base spare held n 23 ((cs.drop 3).take (Tryd.prog.cellsOf 23)) = some y3 := hf 3 _ rfl
  rw [show Tryd.prog.cellsOf 23 = 1 by kernel_rfl] at f3
  have f4 : DataW.trod enc Tryd.prog w base spare held n 24 ((cs.drop 4).take (Tryd.prog.cellsOf 24)) = some y4 := hf 4 _ rfl
  rw [show Tryd.prog.cellsOf 24 = 1 by kernel_rfl] at f4
  have f5 : DataW.trod enc Tryd.prog w base spare held n 25 ((cs.drop 5).take (Tryd.prog.cellsOf 25)) = some y5 := hf 5 _ rfl
  rw [show Tryd.prog.cellsOf 25 = 1 by kernel_rfl] at f5
  have f6 : DataW.trod enc Tryd.prog w base spare held n 26 ((cs.drop 6).take (Tryd.prog.cellsOf 26)) = some y6 := hf 6 _ rfl
  rw [show Tryd.prog.cellsOf 26 = 1 by kernel_rfl] at f6
  have f7 : DataW.trod enc Tryd.prog w base spare held n 27 ((cs.drop 7).take (Tryd.prog.cellsOf 27)) = some y7 := hf 7 _ rfl
  rw [show Tryd.prog.cellsOf 27 = 1 by kernel_rfl] at f7
  obtain ⟨a0, r0, o0, m0⟩ := opens_strz Tryd.underlying9 _ _ f0
  obtain ⟨a1, r1, o1, m1⟩ := opens_far Tryd.underlying3 _ _ f1
  obtain ⟨a2, r2, o2, m2⟩ := opens_slice Us.ts Us.mass 3 (by omega) Us.ts_len Tryd.underlying22 cn_Us (fun m _ => opensUs m) _ _ f2
  obtain ⟨a3, r3, o3, m3⟩ := opens_slice Da.ts Da.mass 3 (by omega) Da.ts_len Tryd.underlying23 cn_Da (fun m _ => opensDa m) _ _ f3
  obtain ⟨a4, r4, o4, m4⟩ := opens_slice Tr.ts Tr.mass 2 (by omega) Tr.ts_len Tryd.underlying24 cn_Tr (fun m _ => opensTr m) _ _ f4
  obtain ⟨a5, r5, o5, m5⟩ := opens_slice Im.ts Im.mass 3 (by omega) Im.ts_len Tryd.underlying25 cn_Im (fun m _ => opensIm m) _ _ f5
  obtain ⟨a6, r6, o6, m6⟩ := opens_slice Fu.ts Fu.mass 15 (by omega) Fu.ts_len Tryd.underlying26 cn_Fu (fun m _ => opensFu m) _ _ f6
  obtain ⟨a7, r7, o7, m7⟩ := opens_slice Ac.ts Ac.mass 14 (by omega) Ac.ts_len Tryd.underlying27 cn_Ac (fun m _ => opensAc m) _ _ f7
  refine ⟨⟨a0, a1, a2, a3, a4, a5, a6, a7⟩, ?_, ?_, ?_⟩
  · have := rts_seg r0 (rts_seg r1 (rts_seg r2 (rts_seg r3 (rts_seg r4 (rts_seg r5 (rts_seg r6 (rts_seg r7 (rts_end hlen))))))))
    simpa [Pr.ts, Ac.row, Da.row, Fu.row, Im.row, Tr.row, Us.row] using this
  · have := one_seg o0 (one_seg o1 (one_seg o2 (one_seg o3 (one_seg o4 (one_seg o5 (one_seg o6 (one_seg o7 (one_end hlen))))))))
    simpa using this
  · simp only [Pr.mass, List.map_cons, List.map_nil, Rows.uptoBulk, Rows.uptoBulkAll] at m0 m1 m2 m3 m4 m5 m6 m7 ⊢
    omega
end
end Go.Proofs.YtllgibfmddihgaaDoor.Mass
