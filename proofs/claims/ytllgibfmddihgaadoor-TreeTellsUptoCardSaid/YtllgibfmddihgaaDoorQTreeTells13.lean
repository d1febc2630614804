/-
  Texts of this proof, part 13: Tnq Open Law OpenT OpenY OpenM.
-/
import Derived.Test.YtllgibfmddihgaaDoorQTreeTells12
import Derived.Deep.Slices
import Derived.JoinedCond
import Derived.Lib.AppendStr
import Derived.OpenShut
import Derived.ProofKit
import Derived.Test.YtllgibfmddihgaaDoorRows
namespace Go.Proofs.YtllgibfmddihgaaDoor
open Go.RowKit
theorem Ex.clear_mass (e : Ex) : e.clear.mass ≤ e.mass := by
  induction e using Ex.ind with
  | h k n t ns ys l rs p ih ihr =>
    have h1 : ((l.map Ex.clear).map Ex.mass).sum ≤ (l.map Ex.mass).sum := by
      rw [List.map_map]
      exact sum_le_of fun a ha => ih a ha
    have h2 : ((rs.map Ar.clear).map Ar.mass).sum ≤ (rs.map Ar.mass).sum := by
      rw [List.map_map]
      exact sum_le_of fun r hr => by
        obtain ⟨q, b⟩ := r
        have := ihr _ hr q b rfl
        simp only [Function.comp, Ar.clear, Ar.mass]
        omega
    have h3 := far_pos p
    have h4 : far 0 = 1 := rfl
    rw [Ex.clear, Ex.mass, Ex.mass, Ex.clears_eq, Ar.clears_eq, Ex.masses_sum, Ex.masses_sum, Ar.masses_sum, Ar.masses_sum, h4]
    omega
theorem Ex.walk_mass (e : Ex) : ∀ x ∈ e.walk, x.mass ≤ e.mass := by
  induction e using Ex.ind with
  | h k n t ns ys l rs p ih ihr =>
    intro x hx
    rw [Ex.walk, Ex.walks_eq, Ar.walks_eq] at hx
    rcases List.mem_cons.1 hx with rfl | hx
    · exact Nat.le_refl _
    · have hm : (Ex.mk k n t ns ys l rs p).mass = far k + far n + (t.size + 1) + (strSize ns + 1) + (Y.masses ys + 1) + ((l.map Ex.mass).sum + 1) + ((rs.map Ar.mass).sum + 1) + far p := by rw [Ex.mass, Ex.masses_sum, Ar.masses_sum]
      rcases List.mem_append.1 hx with hx | hx
      · obtain ⟨y, hy, hxy⟩ := List.mem_flatMap.1 hx
        have h1 := ih y hy x hxy
        have h2 := sum_mem' Ex.mass hy
        omega
      · obtain ⟨y, hy, hxy⟩ := List.mem_flatMap.1 hx
        obtain ⟨r, hr, rfl⟩ := List.mem_map.1 hy
        obtain ⟨q, b⟩ := r
        have h1 := ihr _ hr q b rfl x hxy
        have h2 := sum_mem' Ar.mass hr
        rw [Ar.mass] at h2
        omega
theorem eqBy_self {α : Type} {p : α → α → Bool} (h : ∀ a, p a a = true) : ∀ l : List α, eqBy p l l = true
  | [] => rfl
  | a :: l => by rw [eqBy, h a, eqBy_self h l]; rfl
theorem eqStr_self (a : ByteArray) : eqStr a a = true := by simp [eqStr]
theorem walk_ne (e : Ex) : decide (((e.walk.length : Nat) : Int) = 0) = false := by
  rw [Ex.walk_eq, List.length_cons]
  exact decide_eq_false (by omega)
theorem nexts_len (e : Ex) : e.nexts.length ≤ e.walk.length := by
  have := Ex.len_walk e.nexts
  rw [Ex.walk_eq, List.length_cons]
  omega
set_option maxRecDepth 100000 in
set_option maxHeartbeats 16000000 in
theorem treeTells_law (e : Ex) (he : e.mass ≤ 1048576) : AF Tryd.prog 7 [e.t] (· = .lit (.bool true)) := by
  have hcl := Nat.le_trans e.count_le he
  have hwl := Nat.le_trans e.walk_count hcl
  have hcm := Nat.le_trans e.clear_mass he
  have hwc : e.clear.walk.length ≤ 1048576 := Nat.le_trans e.clear.walk_count (Nat.le_trans e.clear.count_le hcm)
  have hnl := Nat.le_trans (nexts_len e) hwl
  have h50 := sizeOf_af e hcl
  have h51 := walk_af e hwl
  have h52 := all_af e hwl
  have h53 := size_af e hcl
  have h54 := deep_af e hcl
  have h55 := deepOf_af e hcl
  have h56 := needs_af e
  have h57 := needsOf_af e
  have h58 := free_af e he
  have h59 := freeOf_af e he
  have h39 := eqStrs_af e.free e.free
  rw [eqBy_self eqStr_self] at h39
  have hW := walk_ne e
  have hWm : ∀ x ∈ e.walk, AF Tryd.prog 14 [x.t] (· = .lit (.string (bs x.mark))) := fun x hx => by
    have hm := Nat.le_trans (e.walk_mass x hx) he
    exact exprMark_af x (x.mass_ok hm) (by have := x.mark_le hm; omega)
  have h62 := clear_af e he
  have h52c := all_af e.clear hwc
  have hz := e.clear_pos
  have h14 := exprMark_af e (e.mass_ok he) (by have := e.mark_le he; omega)
  have h14c := exprMark_af e.clear (e.clear.mass_ok hcm) (by have := e.clear.mark_le hcm; omega)
  rw [e.clear_mark] at h14c
  have h64 := parts_af e hnl
  have h63 := eqExs_af Ex.same 15 [] e.nexts e.nexts (fun a _ b _ => sameExpr_af a b)
  rw [eqBy_self (fun a => (Ex.code a).self)] at h63
  clear hcl hwl hcm hwc
  generalize bs e.mark = mk at *
  generalize e.clear = c at *
  generalize e.free = fr at *
  generalize e.walk = W at *
  generalize e.needs = nd at *
  generalize e.deep = dp at *
  generalize e.count = ct at *
  obtain ⟨k, n, t, ns, ys, l, rs, p⟩ := e
  rw [Ex.mass, Ex.masses_sum, Ar.masses_sum] at he
  have hrl : rs.length ≤ 1048576 := by have := len_sum' Ar.mass Ar.mass_pos rs; omega
  have hll : l.length ≤ 1048576 := by have := len_sum' Ex.mass Ex.mass_pos l; omega
  have hra : ∀ r ∈ rs, r.pat.nodes ≤ 1048576 := fun r hr => by
    have h1 := sum_mem' Ar.mass hr
    have h2 := r.pat.nodes_mass
    obtain ⟨q, b⟩ := r
    simp only [Ar.mass, Ar.pat] at *
    omega
  have h65 := cloneEx_ag l hll
  have hnx : Ex.row (Ex.mk k n t ns ys l rs p).nexts = .row (l.length + rs.length) 8 (Ex.all l ++ Ex.all (rs.map Ar.body)) := by
    rw [Ex.nexts, Ex.row, List.length_append, List.length_map, Ex.all_app]
    rfl
  rw [hnx] at h63 h64
  clear hnx he hnl
  refine af_enter tok Tryd.func7 Tryd.ntmps7 Tryd.results7 rfl (by kernel_rfl) rfl rfl fun F hX => ?_
  repeat (first | refine gG ?_ | refine zN1 (fun hlen => ?_) | refine zN2 (fun hlen => ?_) | refine zAl (fun _ => ?_) | refine zBf ?_ | refine zAp (fun _ => ?_))
  refine zCall (h50) ?_
  rintro _ rfl
  cases d0 : decide ((400 : Int) < ((ct : Nat) : Int))
  rotate_left
  · repeat (first | refine gG ?_ | refine zN1 (fun hlen => ?_) | refine zN2 (fun hlen => ?_) | refine zAl (fun _ => ?_) | refine zBx (fun _ => ?_) | refine zAp (fun _ => ?_))
    first | refine zR ?_ | refine zQ ?_
    rfl
  repeat (first | refine gG ?_ | refine zN1 (fun hlen => ?_) | refine zN2 (fun hlen => ?_) | refine zAl (fun _ => ?_) | refine zBx (fun _ => ?_) | refine zAp (fun _ => ?_))
  refine zCall (h51) ?_
  rintro _ rfl
  repeat (first | refine gG ?_ | refine zN1 (fun hlen => ?_) | refine zN2 (fun hlen => ?_) | refine zAl (fun _ => ?_) | refine zBx (fun _ => ?_) | refine zAp (fun _ => ?_))
  refine zCall (h52) ?_
  rintro _ rfl
  repeat (first | refine gG ?_ | refine zN1 (fun hlen => ?_) | refine zN2 (fun hlen => ?_) | refine zAl (fun _ => ?_) | refine zBx (fun _ => ?_) | refine zAp (fun _ => ?_))
  have e0 : decide (((W.length : Nat) : Int) = ((W.length : Nat) : Int)) = true := by simp
  refine ac_drawB [0, 1, 0, 4, 15, 31, 63, 127, 255, 511, 1023, 2047, 4095, 2047, 16383, 32767, 65535, 131071, 262143, 524287, 262143, 2097151, 4194303, 8388607, 16777215, 33554431, 67108863, 33554431, 268435455, 536870911, 1073741823, 2147483647, 4294967295, 8589934591, 4294967295, 34359738367, 68719476735, 137438953471, 274877906943] [1, 1, 1, 1, 1, 1, 1, 1, 1, 1, 1, 1, 1, 1, 1, 1, 1, 1, 1, 1, 1, 1, 1, 1, 1, 1, 1, 1, 1, 1, 1, 1, 1, 1, 1, 1, 1, 1, 1] [0, 1, 2, 3, 4, 5, 6, 7, 8, 9, 10, 11, 12, 13, 14, 15, 16, 17, 18, 19, 20, 21, 22, 23, 24, 25, 26, 27, 28, 29, 30, 31, 32, 33, 34, 35, 36, 37, 38] (by kernel_rfl) (by kernel_rfl) ?_
  refine gW ?_
  try (first | (apply w_un; (focus exact rfl); (focus exact rfl); (focus exact rfl); (focus exact rfl)) | (apply w_no; (focus exact rfl); (focus exact rfl); (focus exact rfl); (focus exact rfl); focus (first | rfl | assumption | exact neg_t (by assumption) | exact neg_f (by assumption))) | (apply w_qg; (focus exact rfl); (focus exact rfl); (focus exact rfl); (focus exact rfl); (focus (first | rfl | assumption | exact neg_t (by assumption) | exact neg_f (by assumption))); (focus (intro _; (refine zCall h53 ?_; rintro _ rfl); exact det_refl))))
  try refine gW ?_
  try (first | (apply w_un; (focus exact rfl); (focus exact rfl); (focus exact rfl); (focus exact rfl)) | (apply w_no; (focus exact rfl); (focus exact rfl); (focus exact rfl); (focus exact rfl); focus (first | rfl | assumption | exact neg_t (by assumption) | exact neg_f (by assumption))) | (apply w_qg; (focus exact rfl); (focus exact rfl); (focus exact rfl); (focus exact rfl); (focus (first | rfl | assumption | exact neg_t (by assumption) | exact neg_f (by assumption))); (focus (intro _; (refine zCall h50 ?_; rintro _ rfl); exact det_refl))))
  (first | (apply w_un; (focus exact rfl); (focus exact rfl); (focus exact rfl); (focus exact rfl)) | (apply w_no; (focus exact rfl); (focus exact rfl); (focus exact rfl); (focus exact rfl); focus (first | rfl | assumption | exact neg_t (by assumption) | exact neg_f (by assumption))) | (apply w_qg; (focus exact rfl); (focus exact rfl); (focus exact rfl); (focus exact rfl); (focus (first | rfl | assumption | exact neg_t (by assumption) | exact neg_f (by assumption))); (focus (intro _; (refine lo_neir (r := false) ?_); exact det_refl))))
  try refine gW ?_
  try (first | (apply w_un; (focus exact rfl); (focus exact rfl); (focus exact rfl); (focus exact rfl)) | (apply w_no; (focus exact rfl); (focus exact rfl); (focus exact rfl); (focus exact rfl); focus (first | rfl | assumption | exact neg_t (by assumption) | exact neg_f (by assumption))) | (apply w_qg; (focus exact rfl); (focus exact rfl); (focus exact rfl); (focus exact rfl); (focus (first | rfl | assumption | exact neg_t (by assumption) | exact neg_f (by assumption))); (focus (intro _; (refine zCall h54 ?_; rintro _ rfl); exact det_refl))))
  try refine gW ?_
  try (first | (apply w_un; (focus exact rfl); (focus exact rfl); (focus exact rfl); (focus exact rfl)) | (apply w_no; (focus exact rfl); (focus exact rfl); (focus exact rfl); (focus exact rfl); focus (first | rfl | assumption | exact neg_t (by assumption) | exact neg_f (by assumption))) | (apply w_qg; (focus exact rfl); (focus exact rfl); (focus exact rfl); (focus exact rfl); (focus (first | rfl | assumption | exact neg_t (by assumption) | exact neg_f (by assumption))); (focus (intro _; (refine zCall h55 ?_; rintro _ rfl); exact det_refl))))
  (first | (apply w_un; (focus exact rfl); (focus exact rfl); (focus exact rfl); (focus exact rfl)) | (apply w_no; (focus exact rfl); (focus exact rfl); (focus exact rfl); (focus exact rfl); focus (first | rfl | assumption | exact neg_t (by assumption) | exact neg_f (by assumption))) | (apply w_qg; (focus exact rfl); (focus exact rfl); (focus exact rfl); (focus exact rfl); (focus (first | rfl | assumption | exact neg_t (by assumption) | exact neg_f (by assumption))); (focus (intro _; (refine lo_neir (r := false) ?_); exact det_refl))))
  try refine gW ?_
  try (first | (apply w_un; (focus exact rfl); (focus exact rfl); (focus exact rfl); (focus exact rfl)) | (apply w_no; (focus exact rfl); (focus exact rfl); (focus exact rfl); (focus exact rfl); focus (first | rfl | assumption | exact neg_t (by assumption) | exact neg_f (by assumption))) | (apply w_qg; (focus exact rfl); (focus exact rfl); (focus exact rfl); (focus exact rfl); (focus (first | rfl | assumption | exact neg_t (by assumption) | exact neg_f (by assumption))); (focus (intro _; (refine zCall h56 ?_; rintro _ rfl); exact det_refl))))
  try refine gW ?_
  try (first | (apply w_un; (focus exact rfl); (focus exact rfl); (focus exact rfl); (focus exact rfl)) | (apply w_no; (focus exact rfl); (focus exact rfl); (focus exact rfl); (focus exact rfl); focus (first | rfl | assumption | exact neg_t (by assumption) | exact neg_f (by assumption))) | (apply w_qg; (focus exact rfl); (focus exact rfl); (focus exact rfl); (focus exact rfl); (focus (first | rfl | assumption | exact neg_t (by assumption) | exact neg_f (by assumption))); (focus (intro _; (refine zCall h57 ?_; rintro _ rfl); exact det_refl))))
  (first | (apply w_un; (focus exact rfl); (focus exact rfl); (focus exact rfl); (focus exact rfl)) | (apply w_no; (focus exact rfl); (focus exact rfl); (focus exact rfl); (focus exact rfl); focus (first | rfl | assumption | exact neg_t (by assumption) | exact neg_f (by assumption))) | (apply w_qg; (focus exact rfl); (focus exact rfl); (focus exact rfl); (focus exact rfl); (focus (first | rfl | assumption | exact neg_t (by assumption) | exact neg_f (by assumption))); (focus (intro _; (refine lo_neir (r := false) ?_); exact det_refl))))
  try refine gW ?_
  try (first | (apply w_un; (focus exact rfl); (focus exact rfl); (focus exact rfl); (focus exact rfl)) | (apply w_no; (focus exact rfl); (focus exact rfl); (focus exact rfl); (focus exact rfl); focus (first | rfl | assumption | exact neg_t (by assumption) | exact neg_f (by assumption))) | (apply w_qg; (focus exact rfl); (focus exact rfl); (focus exact rfl); (focus exact rfl); (focus (first | rfl | assumption | exact neg_t (by assumption) | exact neg_f (by assumption))); (focus (intro _; (refine zCall h58 ?_; rintro _ rfl); exact det_refl))))
  try refine gW ?_
  try (first | (apply w_un; (focus exact rfl); (focus exact rfl); (focus exact rfl); (focus exact rfl)) | (apply w_no; (focus exact rfl); (focus exact rfl); (focus exact rfl); (focus exact rfl); focus (first | rfl | assumption | exact neg_t (by assumption) | exact neg_f (by assumption))) | (apply w_qg; (focus exact rfl); (focus exact rfl); (focus exact rfl); (focus exact rfl); (focus (first | rfl | assumption | exact neg_t (by assumption) | exact neg_f (by assumption))); (focus (intro _; (refine zCall h59 ?_; rintro _ rfl); exact det_refl))))
  (first | (apply w_un; (focus exact rfl); (focus exact rfl); (focus exact rfl); (focus exact rfl)) | (apply w_no; (focus exact rfl); (focus exact rfl); (focus exact rfl); (focus exact rfl); focus (first | rfl | assumption | exact neg_t (by assumption) | exact neg_f (by assumption))) | (apply w_qg; (focus exact rfl); (focus exact rfl); (focus exact rfl); (focus exact rfl); (focus (first | rfl | assumption | exact neg_t (by assumption) | exact neg_f (by assumption))); (focus (intro _; (refine zCall h39 ?_; rintro _ rfl); exact det_refl))))
  try refine gW ?_
  refine w_nil ?_
  clear h50 h51 h52 h53 h54 h55 h56 h57 h58 h59 h39 hW
  repeat (first | refine gG ?_ | refine zN1 (fun hlen => ?_) | refine zN2 (fun hlen => ?_) | refine zAl (fun _ => ?_) | refine zBx (fun _ => ?_) | refine zAp (fun _ => ?_))
  refine x_loop [2, 5, 60, 61, 62, 63, 64, 65, 66, 67, 68, 69, 70, 71, 72, 73, 74, 75, 76, 77, 78, 79, 80, 81, 82, 83, 84, 85, 86, 87] (fun i : Nat => [(60, .c (.lit (.int .i64 (i : Nat))))]) (fun _ => []) (fun i => i ≤ W.length) (fun i => W.length - i) 0 (Nat.zero_le _) ⟨rfl, trivial⟩ rfl ?_
  intro i hi
  repeat (first | refine gG ?_ | refine zN1 (fun hlen => ?_) | refine zN2 (fun hlen => ?_) | refine zAl (fun _ => ?_) | refine zBx (fun _ => ?_) | refine zAp (fun _ => ?_))
  refine x_cond rfl (fun h => ?_) (fun h => ?_)
  · have hi' : i < W.length := by simpa using h
    obtain ⟨a, ha⟩ := nth hi'
    have hma := hWm a (List.mem_of_getElem? ha)
    have hat := Ex.at ha
    have hps : (Ex.all W)[i * 8 + 7]? = (Ex.ts a)[7]? := by rw [Ex.all_eq]; exact flat_get Ex.ts 8 Ex.ts_len ha (j := 7) (by omega)
    clear h ha hWm
    generalize bs a.mark = ma at *
    obtain ⟨ka, na, ta, nsa, ysa, la, rsa, qa⟩ := a
    have hpo : (Ex.all W)[i * 8 + 7]? = some (.lit (.int .i64 qa)) := hps
    repeat (first | refine gG ?_ | refine zN1 (fun hlen => ?_) | refine zN2 (fun hlen => ?_) | refine zAl (fun _ => ?_) | refine zBx (fun _ => ?_) | refine zAp (fun _ => ?_))
    refine ac_drawB [0, 0, 3, 7, 15, 0, 0, 96, 224, 511, 1023, 2047, 4095, 4095, 16383, 32767, 65535, 4095, 4095, 397311, 921599, 1970175, 4194303, 8388607] [1, 1, 1, 1, 1, 1, 1, 1, 1, 1, 1, 1, 1, 1, 1, 1, 1, 1, 1, 1, 1, 1, 1, 1] [0, 1, 2, 3, 4, 5, 6, 7, 8, 9, 10, 11, 12, 13, 14, 15, 16, 17, 18, 19, 20, 21, 22, 23] (by kernel_rfl) (by kernel_rfl) ?_
    refine gW ?_
    apply w_q; (focus exact rfl); (focus exact rfl); focus (intro _; (refine zIx i hi' ?_); exact det_refl)
    apply w_q; (focus exact rfl); (focus exact rfl); focus (intro _; (refine zEl hat (Ex.ts_len _) ?_); exact det_refl)
    apply w_q; (focus exact rfl); (focus exact rfl); focus (intro _; (refine zCall hma ?_; rintro _ rfl); exact det_refl)
    refine gW ?_
    apply w_q; (focus exact rfl); (focus exact rfl); focus (intro _; (refine zIx i hi' ?_); exact det_refl)
    apply w_q; (focus exact rfl); (focus exact rfl); focus (intro _; (refine zEl hat (Ex.ts_len _) ?_); exact det_refl)
    apply w_q; (focus exact rfl); (focus exact rfl); focus (intro _; (refine zCall hma ?_; rintro _ rfl); exact det_refl)
    apply w_q; (focus exact rfl); (focus exact rfl); focus (intro _; (refine lo_nesr (r := false) ?_); exact det_refl)
    refine gW ?_
    try (first | (apply w_un; (focus exact rfl); (focus exact rfl); (focus exact rfl); (focus exact rfl)) | (apply w_no; (focus exact rfl); (focus exact rfl); (focus exact rfl); (focus exact rfl); focus (first | rfl | assumption | exact neg_t (by assumption) | exact neg_f (by assumption))) | (apply w_qg; (focus exact rfl); (focus exact rfl); (focus exact rfl); (focus exact rfl); (focus (first | rfl | assumption | exact neg_t (by assumption) | exact neg_f (by assumption))); (focus (intro _; (refine zIx i hi' ?_); exact det_refl))))
    try refine gW ?_
    try (first | (apply w_un; (focus exact rfl); (focus exact rfl); (focus exact rfl); (focus exact rfl)) | (apply w_no; (focus exact rfl); (focus exact rfl); (focus exact rfl); (focus exact rfl); focus (first | rfl | assumption | exact neg_t (by assumption) | exact neg_f (by assumption))) | (apply w_qg; (focus exact rfl); (focus exact rfl); (focus exact rfl); (focus exact rfl); (focus (first | rfl | assumption | exact neg_t (by assumption) | exact neg_f (by assumption))); (focus (intro _; (refine zEl1 hpo ?_); exact det_refl))))
    try refine gW ?_
    try (first | (apply w_un; (focus exact rfl); (focus exact rfl); (focus exact rfl); (focus exact rfl)) | (apply w_no; (focus exact rfl); (focus exact rfl); (focus exact rfl); (focus exact rfl); focus (first | rfl | assumption | exact neg_t (by assumption) | exact neg_f (by assumption))) | (apply w_qg; (focus exact rfl); (focus exact rfl); (focus exact rfl); (focus exact rfl); (focus (first | rfl | assumption | exact neg_t (by assumption) | exact neg_f (by assumption))); (focus (intro _; (refine zIx i hi' ?_); exact det_refl))))
    try refine gW ?_
    try (first | (apply w_un; (focus exact rfl); (focus exact rfl); (focus exact rfl); (focus exact rfl)) | (apply w_no; (focus exact rfl); (focus exact rfl); (focus exact rfl); (focus exact rfl); focus (first | rfl | assumption | exact neg_t (by assumption) | exact neg_f (by assumption))) | (apply w_qg; (focus exact rfl); (focus exact rfl); (focus exact rfl); (focus exact rfl); (focus (first | rfl | assumption | exact neg_t (by assumption) | exact neg_f (by assumption))); (focus (intro _; (refine zEl1 hpo ?_); exact det_refl))))
    (first | (apply w_un; (focus exact rfl); (focus exact rfl); (focus exact rfl); (focus exact rfl)) | (apply w_no; (focus exact rfl); (focus exact rfl); (focus exact rfl); (focus exact rfl); focus (first | rfl | assumption | exact neg_t (by assumption) | exact neg_f (by assumption))) | (apply w_qg; (focus exact rfl); (focus exact rfl); (focus exact rfl); (focus exact rfl); (focus (first | rfl | assumption | exact neg_t (by assumption) | exact neg_f (by assumption))); (focus (intro _; (refine lo_neir (r := false) ?_); exact det_refl))))
    try refine gW ?_
    refine w_nil ?_
    repeat (first | refine gG ?_ | refine zN1 (fun hlen => ?_) | refine zN2 (fun hlen => ?_) | refine zAl (fun _ => ?_) | refine zBx (fun _ => ?_) | refine zAp (fun _ => ?_))
    exact ⟨i + 1, hi', by omega, x_wkd 0 ⟨rfl, trivial⟩ rfl (by repeat (first | exact ag_refl | refine ag_upd rfl ?_ | refine ag_at rfl rfl ?_))⟩
  clear h hWm hi
  repeat (first | refine gG ?_ | refine zN1 (fun hlen => ?_) | refine zN2 (fun hlen => ?_) | refine zAl (fun _ => ?_) | refine zBf ?_ | refine zAp (fun _ => ?_))
  refine x_own 6 40 8 rfl rfl rfl rfl rfl ?_
  refine x_loop [2, 6, 8, 91, 92, 93, 94, 95, 96, 97, 98, 99, 100, 101, 102, 103, 104, 105, 106, 107, 108] (fun y : Nat × Value => [(91, .c (.lit (.int .i64 (y.1 : Nat)))), (6, .own 0 y.2)]) (fun y => [.row y.2 40 8 y.1 (Ex.all ((rs.take y.1).map Ar.body))]) (fun y => y.1 ≤ rs.length) (fun y => rs.length - y.1) (0, .slice none 0 0) (Nat.zero_le _) ⟨rfl, rfl, trivial⟩ rfl ?_
  rintro ⟨j, v⟩ hj
  dsimp only at hj ⊢
  repeat (first | refine gG ?_ | refine zN1 (fun hlen => ?_) | refine zN2 (fun hlen => ?_) | refine zAl (fun _ => ?_) | refine zBx (fun _ => ?_) | refine zAp (fun _ => ?_))
  refine x_cond rfl (fun h => ?_) (fun h => ?_)
  · have hj' : j < rs.length := by simpa using h
    obtain ⟨a, ha⟩ := nth hj'
    have hn := hra a (List.mem_of_getElem? ha)
    have hbd := bound_af a.pat hn
    have hno := namesOf_af a.pat hn
    have heq := eqStrs_af a.pat.binds a.pat.binds
    rw [eqBy_self eqStr_self] at heq
    have hsn : Ex.all ((rs.take (j + 1)).map Ar.body) = Ex.all ((rs.take j).map Ar.body) ++ a.body.ts := by
      rw [List.take_add_one, ha, List.map_append, Ex.all_app]
      simp [Ex.all]
    have hat := Ar.at ha
    clear h ha hra hn
    generalize Ex.all ((rs.take j).map Ar.body) = S at *
    generalize a.pat.binds = ab at *
    obtain ⟨⟨kq, nq, tq, lq⟩, ⟨ka, na, ta, nsa, ysa, la, rsa, qa⟩⟩ := a
    dsimp only [Ar.body] at hsn
    repeat (first | refine gG ?_ | refine zN1 (fun hlen => ?_) | refine zN2 (fun hlen => ?_) | refine zAl (fun _ => ?_) | refine zBx (fun _ => ?_) | refine zAp (fun _ => ?_))
    refine zIx (j) (hj') ?_
    repeat (first | refine gG ?_ | refine zN1 (fun hlen => ?_) | refine zN2 (fun hlen => ?_) | refine zAl (fun _ => ?_) | refine zBx (fun _ => ?_) | refine zAp (fun _ => ?_))
    refine zEl (hat) (Ar.ts_len _) ?_
    repeat (first | refine gG ?_ | refine zN1 (fun hlen => ?_) | refine zN2 (fun hlen => ?_) | refine zAl (fun _ => ?_) | refine zBx (fun _ => ?_) | refine zAp (fun _ => ?_))
    refine ac_draw [1, 1, 1, 1, 1, 1, 1, 1] [0, 1, 2, 3, 4, 5, 6, 7] (by kernel_rfl) (by kernel_rfl) ?_
    refine gW ?_
    apply w_q; (focus exact rfl); (focus exact rfl); focus (intro _; (refine zCall hbd ?_; rintro _ rfl); exact det_refl)
    refine gW ?_
    apply w_q; (focus exact rfl); (focus exact rfl); focus (intro _; (refine zCall hno ?_; rintro _ rfl); exact det_refl)
    apply w_q; (focus exact rfl); (focus exact rfl); focus (intro _; (refine zCall heq ?_; rintro _ rfl); exact det_refl)
    refine gW ?_
    refine w_nil ?_
    repeat (first | refine gG ?_ | refine zN1 (fun hlen => ?_) | refine zN2 (fun hlen => ?_) | refine zAl (fun _ => ?_) | refine zBx (fun _ => ?_) | refine zAp (fun _ => ?_))
    exact ⟨(j + 1, _), hj', by simp only; omega, x_wkd 1 ⟨rfl, rfl, trivial⟩ (by simp only [hsn]; rfl) (by repeat (first | exact ag_refl | refine ag_upd rfl ?_ | refine ag_at rfl rfl ?_))⟩
  have hj' : j = rs.length := by
    have : ¬ j < rs.length := by simpa using h
    omega
  subst hj'
  clear h hra hj
  rw [List.take_length]
  refine x_fz 6 rfl rfl rfl rfl ?_
  obtain ⟨kc, nc, tc, nsc, ysc, lc, rsc, qc⟩ := c
  repeat (first | refine gG ?_ | refine zN1 (fun hlen => ?_) | refine zN2 (fun hlen => ?_) | refine zAl (fun _ => ?_) | refine zBx (fun _ => ?_) | refine zAp (fun _ => ?_))
  refine zCall (h62) ?_
  rintro _ rfl
  repeat (first | refine gG ?_ | refine zN1 (fun hlen => ?_) | refine zN2 (fun hlen => ?_) | refine zAl (fun _ => ?_) | refine zBx (fun _ => ?_) | refine zAp (fun _ => ?_))
  rename_i b9
  refine zCall (h52c) ?_
  rintro _ rfl
  clear h62 h52c
  repeat (first | refine gG ?_ | refine zN1 (fun hlen => ?_) | refine zN2 (fun hlen => ?_) | refine zAl (fun _ => ?_) | refine zBx (fun _ => ?_) | refine zAp (fun _ => ?_))
  refine x_loop [2, 11, 114, 115, 116, 117, 118, 119, 120, 121] (fun i : Nat => [(114, .c (.lit (.int .i64 (i : Nat))))]) (fun _ => [.dead, .box b9 40 [.c (.lit (.int .i64 kc)), .c (.lit (.int .i64 nc)), .c (.lit (.string tc)), .c (strRow nsc), .c (Y.row ysc), .c (Ex.row lc), .c (Ar.row rsc), .c (.lit (.int .i64 qc))]]) (fun i => i ≤ (Ex.mk kc nc tc nsc ysc lc rsc qc).walk.length) (fun i => (Ex.mk kc nc tc nsc ysc lc rsc qc).walk.length - i) 0 (Nat.zero_le _) ⟨rfl, trivial⟩ rfl ?_
  intro i hi
  generalize (Ex.mk kc nc tc nsc ysc lc rsc qc).walk = CW at *
  repeat (first | refine gG ?_ | refine zN1 (fun hlen => ?_) | refine zN2 (fun hlen => ?_) | refine zAl (fun _ => ?_) | refine zBx (fun _ => ?_) | refine zAp (fun _ => ?_))
  refine x_cond rfl (fun h => ?_) (fun h => ?_)
  · have hi' : i < CW.length := by simpa using h
    obtain ⟨a, ha⟩ := nth hi'
    have hza := hz a (List.mem_of_getElem? ha)
    have hat := Ex.at ha
    clear h ha hz
    obtain ⟨ka, na, ta, nsa, ysa, la, rsa, qa⟩ := a
    obtain rfl : qa = 0 := hza
    repeat (first | refine gG ?_ | refine zN1 (fun hlen => ?_) | refine zN2 (fun hlen => ?_) | refine zAl (fun _ => ?_) | refine zBx (fun _ => ?_) | refine zAp (fun _ => ?_))
    refine zIx (i) (hi') ?_
    repeat (first | refine gG ?_ | refine zN1 (fun hlen => ?_) | refine zN2 (fun hlen => ?_) | refine zAl (fun _ => ?_) | refine zBx (fun _ => ?_) | refine zAp (fun _ => ?_))
    refine zEl (hat) (Ex.ts_len _) ?_
    repeat (first | refine gG ?_ | refine zN1 (fun hlen => ?_) | refine zN2 (fun hlen => ?_) | refine zAl (fun _ => ?_) | refine zBx (fun _ => ?_) | refine zAp (fun _ => ?_))
    exact ⟨i + 1, hi', by omega, x_wkd 2 ⟨rfl, trivial⟩ rfl (by repeat (first | exact ag_refl | refine ag_upd rfl ?_ | refine ag_at rfl rfl ?_))⟩
  clear h hz hi
  have hmm : decide (mk = mk) = true := by simp
  repeat (first | refine gG ?_ | refine zN1 (fun hlen => ?_) | refine zN2 (fun hlen => ?_) | refine zAl (fun _ => ?_) | refine zBx (fun _ => ?_) | refine zAp (fun _ => ?_))
  refine ac_draw [0, 0, 1, 1, 2, 0, 2, 1, 1, 1, 1, 1, 1, 1, 1, 1] [0, 1, 2, 3, 5, 4, 6, 7, 8, 9, 10, 11, 12, 13, 14, 15] (by kernel_rfl) (by kernel_rfl) ?_
  refine gW ?_
  apply w_p; (focus exact rfl); (focus exact rfl); focus (intro _; (refine zCall h64 ?_; rintro _ rfl); exact det_refl)
  refine gW ?_
  apply w_l; (focus exact rfl); (focus exact rfl); (refine zCallG [] h65 ?_; rintro _ _ ⟨v', rfl, rfl⟩; refine ⟨.own 2 v', _, re_own, rfl, rfl, ?_⟩)
  apply w_l; (focus exact rfl); (focus exact rfl); (first | (refine zkL ?_; first | refine zL1 ?_ | refine zL2 ?_ | refine zL3 ?_ | refine zLp ?_) | refine zM ?_ | (refine zkF ?_; first | refine zF1 ?_ | refine zF2 ?_ | refine zF3 ?_) | refine zA ?_ | (refine zkB ?_; first | refine zC5 ?_ | refine zC6 ?_ | refine zC1 ?_ | refine zC2 ?_ | refine zC3 ?_ | refine zC4 ?_ | refine zS5 ?_ | refine zS6 ?_ | refine zS1 ?_ | refine zS2 ?_ | refine zS3 ?_ | refine zS4 ?_ | refine zInc ?_ | refine zQ1 ?_ | refine zQ2 ?_ | refine zQ3 ?_ | refine zQ4 ?_ | refine zQ5 ?_ | refine zQ6 ?_) | (refine zkI ?_; first | refine zN1 (fun hlen => ?_) | refine zN2 (fun hlen => ?_) | refine zN3 ?_ | refine zN4 ?_ | refine zAp (fun _ => ?_)) | refine zS ?_ | refine zAl (fun _ => ?_) | refine zBx (fun _ => ?_) | refine zPt ?_ | refine zPf ?_ | refine zE ?_ | refine zEA ?_ | refine zNot ?_ | refine zBd ?_ | refine zBs ?_ | refine zFn ?_ | refine zK1 ?_ | refine zK2 ?_)
  apply w_q; (focus exact rfl); (focus exact rfl); focus (intro _; (refine zPeek h63 ?_; rintro _ rfl; refine ⟨rfl, ?_⟩); exact det_refl)
  refine gW ?_
  try (first | (apply w_un; (focus exact rfl); (focus exact rfl); (focus exact rfl); (focus exact rfl)) | (apply w_no; (focus exact rfl); (focus exact rfl); (focus exact rfl); (focus exact rfl); focus (first | rfl | assumption | exact neg_t (by assumption) | exact neg_f (by assumption))) | (apply w_qg; (focus exact rfl); (focus exact rfl); (focus exact rfl); (focus exact rfl); (focus (first | rfl | assumption | exact neg_t (by assumption) | exact neg_f (by assumption))); (focus (intro _; (refine zCall h14c ?_; rintro _ rfl); exact det_refl))))
  try refine gW ?_
  try (first | (apply w_un; (focus exact rfl); (focus exact rfl); (focus exact rfl); (focus exact rfl)) | (apply w_no; (focus exact rfl); (focus exact rfl); (focus exact rfl); (focus exact rfl); focus (first | rfl | assumption | exact neg_t (by assumption) | exact neg_f (by assumption))) | (apply w_qg; (focus exact rfl); (focus exact rfl); (focus exact rfl); (focus exact rfl); (focus (first | rfl | assumption | exact neg_t (by assumption) | exact neg_f (by assumption))); (focus (intro _; (refine zCall h14 ?_; rintro _ rfl); exact det_refl))))
  (first | (apply w_un; (focus exact rfl); (focus exact rfl); (focus exact rfl); (focus exact rfl)) | (apply w_no; (focus exact rfl); (focus exact rfl); (focus exact rfl); (focus exact rfl); focus (first | rfl | assumption | exact neg_t (by assumption) | exact neg_f (by assumption))) | (apply w_qg; (focus exact rfl); (focus exact rfl); (focus exact rfl); (focus exact rfl); (focus (first | rfl | assumption | exact neg_t (by assumption) | exact neg_f (by assumption))); (focus (intro _; (refine lo_eqsr hmm ?_); exact det_refl))))
  try refine gW ?_
  refine w_nil ?_
  repeat (first | refine gG ?_ | refine zN1 (fun hlen => ?_) | refine zN2 (fun hlen => ?_) | refine zAl (fun _ => ?_) | refine zBx (fun _ => ?_) | refine zAp (fun _ => ?_))
  first | refine zR ?_ | refine zQ ?_
  rfl
end Go.Proofs.YtllgibfmddihgaaDoor
namespace Go.Proofs.YtllgibfmddihgaaDoor
open Go.ChangeShapes Go.WideShapes Go.ChangeAt Go.RowKit Go.Deep
section
variable {H : Type} {enc : TypeId × Value → H} {P : Program} {w : World} {base : Nat} {spare : Nat → Bool} {held : Bool}
theorem bulk_one (d : DataW H) : 1 ≤ Rows.uptoBulk d := by
  cases d with
  | lit l => cases l <;> simp [Rows.uptoBulk]
  | _ => simp [Rows.uptoBulk]
end
end Go.Proofs.YtllgibfmddihgaaDoor
namespace Go.Proofs.YtllgibfmddihgaaDoor
open Go.ChangeShapes Go.WideShapes Go.ChangeAt Go.RowKit
theorem own : ownKnob Tryd.prog.godebug = none := by kernel_rfl
theorem laidOut : laidOutB Tryd.prog = true := by kernel_rfl
section
variable {H : Type} {enc : TypeId × Value → H}
theorem trodAll_below {P : Program} (hl : laidOutB P = true) {W W' : World} (hb : Below W.heap.size W W') (ts : List TypeId) : ∀ (vs : List Value) (ds : List (DataW H)) (ps : List MemPlace),
    (ts.all fun t => P.readableRec t && decide (t < P.types.size)) = true → DataW.TrodAll enc P W 0 (fun _ => true) true ts vs ds ps → (∀ x ∈ ps, x.block < W.heap.size) →
    DataW.TrodAll enc P W' 0 (fun b => decide (b < W.heap.size)) true ts vs ds ps := by
  induction ts with
  | nil =>
    intro vs ds ps _ h _
    obtain ⟨rfl, rfl, rfl⟩ := trodAll_nil h
    rfl
  | cons t ts ih =>
    intro vs ds ps hr h hlt
    obtain ⟨v, vs', d, ds', p, q, rfl, rfl, rfl, h0, h1⟩ := trodAll_cons h
    simp only [List.all_cons, Bool.and_eq_true, decide_eq_true_eq] at hr
    refine ⟨p, q, Below.trod hl hr.1.1 hr.1.2 h0 hb fun x hx => hlt x (List.mem_append_left _ hx), ?_, rfl⟩
    exact ih vs' ds' q hr.2 h1 fun x hx => hlt x (List.mem_append_right _ hx)
theorem law_post {f : Func} {s : ChangeSpec} {W W' : World} {args : Array Value} {ds gs : List (DataW H)} {before : List MemPlace}
    (hW : DataW.Whole enc Tryd.prog f.params.toList s.vars false W args.toList ds gs before) (hv : s.vars = []) (hrt : f.resultTypes = #[4])
    (hr : (f.params.toList.all fun t => Tryd.prog.readableRec t && decide (t < Tryd.prog.types.size)) = true)
    (hres : (s.fn H (ds ++ gs)).results = [.lit (.bool true)]) (hargs : (s.fn H (ds ++ gs)).args = ds) (hvars : (s.fn H (ds ++ gs)).vars = []) (hb : Below W.heap.size W W') :
    s.post enc Tryd.prog f false true false false W args (.bool true) W' := by
  have hlt : ∀ p ∈ before, p.block < W.heap.size := fun p hp => hW.lt p hp
  have hW' := hW
  obtain ⟨p, q, hA, hV, rfl, _, _⟩ := hW'
  rw [hv] at hV
  obtain ⟨rfl, rfl⟩ := trodVars_none hV
  rw [List.append_nil] at hlt
  refine ⟨ds, [], _, [], p, [], hW, ?_, ?_, ?_, hb.frame _ |> World.keptBut_mono (fun x hx => ⟨hx, ?_⟩), fun h => by cases h⟩
  · rw [hrt, hres]
    exact trodAll_mk1 (shut_bool Tryd.underlying4 true)
  · rw [hargs]
    exact trodAll_below laidOut hb _ _ _ _ hr hA hlt
  · rw [hvars, hv]
    rfl
  · rw [List.append_nil] at hx
    exact .inr (.inl hx)
end
end Go.Proofs.YtllgibfmddihgaaDoor
namespace Go.Proofs.YtllgibfmddihgaaDoor
open Go.ChangeShapes Go.WideShapes Go.ChangeAt Go.RowKit Go.Deep
/-- all memory of a world -/
def memOf (w : World) : Mm := frz (fun _ => none) 0 w
theorem memOf_ok (w : World) : MemOk (memOf w) w := frz_ok (fun p v h => by cases h) 0
theorem memOf_at {w : World} {p : Addr} {v : Value} (h : w.cell? p = some v) (h1 : v.oneCell' = true) : memOf w p = some v := frz_new rfl (Nat.zero_le _) h h1
section
variable {H : Type} {enc : TypeId × Value → H} {P : Program} {w : World} {base : Nat} {spare : Nat → Bool} {held : Bool}
def Opens (enc : TypeId × Value → H) (P : Program) (w : World) (base : Nat) (spare : Nat → Bool) (held : Bool) (t : TypeId) {α : Type} (f : α → List T) (μ : α → Nat) (fuel : Nat) : Prop :=
  ∀ (cs : List Value) (x : DataW H × List MemPlace), DataW.trod enc P w base spare held fuel t cs = some x → ∃ a, RTs (memOf w) (f a) cs ∧ OneAll cs ∧ μ a ≤ Rows.uptoBulk x.1
theorem sum_le {α : Type} (μ : α → Nat) : ∀ (l : List α) (ds : List (DataW H)), l.length = ds.length → (∀ (i : Nat) (a : α) (d : DataW H), l[i]? = some a → ds[i]? = some d → μ a ≤ Rows.uptoBulk d) → (l.map μ).sum ≤ Rows.uptoBulkAll ds
  | [], [], _, _ => by simp [Rows.uptoBulkAll]
  | a :: l, d :: ds, hl, h => by
    have h1 := h 0 a d rfl rfl
    have h2 := sum_le μ l ds (by simpa using hl) fun i a d ha hd => h (i + 1) a d (by simpa using ha) (by simpa using hd)
    simp only [List.map_cons, List.sum_cons, Rows.uptoBulkAll]
    omega
  | [], _ :: _, hl, _ => by simp at hl
  | _ :: _, [], hl, _ => by simp at hl
theorem snoc_ind {α : Type} {p : List α → Prop} (h0 : p []) (h1 : ∀ l x, p l → p (l ++ [x])) (l : List α) : p l := by
  have : ∀ n (l : List α), l.length = n → p l := by
    intro n
    induction n with
    | zero => intro l hl; rw [List.eq_nil_of_length_eq_zero hl]; exact h0
    | succ n ih =>
      intro l hl
      have hne : l ≠ [] := fun e => by rw [e] at hl; cases hl
      rw [← List.dropLast_concat_getLast hne]
      exact h1 _ _ (ih _ (by simp [hl]))
  exact this l.length l rfl
theorem rows_of {α : Type} (f : α → List T) (sz : Nat) (hf : ∀ a, (f a).length = sz) {a : Addr} : ∀ (l : List α) (C : Nat → List Value), (∀ (i : Nat) (x : α), l[i]? = some x → RTs (memOf w) (f x) (C i) ∧ OneAll (C i) ∧ ∀ j u, (C i)[j]? = some u → w.cell? (a.add (i * sz + j)) = some u) →
    ∃ xs : List Value, xs.length = l.length * sz ∧ At (memOf w) a xs ∧ RTs (memOf w) (l.flatMap f) xs := by
  intro l
  induction l using snoc_ind with
  | h0 => exact fun _ _ => ⟨[], by simp, fun j x h => by simp at h, by simp [RTs]⟩
  | h1 l x ih =>
    intro C h
    obtain ⟨xs, h1, h2, h3⟩ := ih C fun i y hy => h i y (by rw [List.getElem?_append_left (List.getElem?_eq_some_iff.1 hy).1]; exact hy)
    obtain ⟨g1, g2, g3⟩ := h l.length x (by simp)
    have hcl := g1.len
    rw [hf] at hcl
    refine ⟨xs ++ C l.length, by simp [h1, hcl, Nat.add_mul], fun j u hu => ?_, ?_⟩
    · rw [List.getElem?_append] at hu
      split at hu
      · exact h2 j u hu
      · have := g3 _ u hu
        rw [show l.length * sz + (j - xs.length) = j by omega] at this
        exact memOf_at this (g2 u (List.mem_of_getElem? hu))
    · rw [List.flatMap_append]
      refine h3.app ?_
      simpa using g1
theorem opens_slice {α : Type} [Inhabited α] {t e : TypeId} (f : α → List T) (μ : α → Nat) (sz : Nat) (hsz : 0 < sz) (hf : ∀ a, (f a).length = sz) {fuel : Nat} (ht : P.underlying t = some (.slice e)) (hC : P.cellsOf e = sz)
    (hel : ∀ n, n < fuel → Opens enc P w base spare held e f μ n) : Opens enc P w base spare held t (fun l : List α => [.row l.length sz (l.flatMap f)]) (fun l => (l.map μ).sum + 1) fuel := by
  intro cs x h
  rcases DataW.trod_slice ht h with ⟨rfl, rfl⟩ | ⟨a, len, cap, elems, rest, n, hn, rfl, rfl, hb, hl, hm, hlen, hi, _, _⟩
  · refine ⟨[], ?_, fun u hu => by simp at hu; subst hu; rfl, by simp [Rows.uptoBulk]⟩
    simp only [RTs]
    exact ⟨_, _, rfl, rt_nil hsz (by simp only [RT]), rfl⟩
  · rw [hC] at hi
    have hv : ∀ i, i < len → ∃ p : α × List Value, (p.2.length = sz ∧ ∀ j u, p.2[j]? = some u → w.cell? (a.add (i * sz + j)) = some u) ∧ RTs (memOf w) (f p.1) p.2 ∧ OneAll p.2 ∧ ∀ y, elems[i]? = some y → μ p.1 ≤ Rows.uptoBulk y.1 := by
      intro i hil
      have hk := hi i hil
      rw [List.getElem?_eq_getElem (by omega)] at hk
      obtain ⟨cs', h1, h2⟩ := Option.bind_eq_some_iff.1 hk
      obtain ⟨el, h3, h4, h5⟩ := hel n (by omega) _ _ h2
      obtain ⟨_, hlen', hcell⟩ := World.cells?_some h1
      refine ⟨(el, cs'), ⟨hlen', fun j u hu => ?_⟩, h3, h4, fun y hy => ?_⟩
      · have hj : j < sz := by rw [← hlen']; exact (List.getElem?_eq_some_iff.1 hu).1
        rw [← hu, ← hcell j hj, add_add']
      · rw [List.getElem?_eq_getElem (by omega)] at hy
        injection hy with hy
        rw [← hy]; exact h5
    obtain ⟨G, hG⟩ := choose_lt (α := α × List Value) hv
    obtain ⟨xs, g1, g2, g3⟩ := rows_of (w := w) (a := a) f sz hf ((List.range len).map fun i => (G i).1) (fun i => (G i).2) (fun i x hx => by
      have hil : i < len := by have := (List.getElem?_eq_some_iff.1 hx).1; simpa using this
      simp [hil] at hx
      obtain ⟨k1, k2, k3, _⟩ := hG i hil
      rw [← hx]
      exact ⟨k2, k3, k1.2⟩)
    refine ⟨(List.range len).map fun i => (G i).1, ?_, fun u hu => by simp at hu; subst hu; rfl, ?_⟩
    · simp only [RTs]
      refine ⟨_, _, rfl, ?_, rfl⟩
      simp only [RT]
      exact ⟨some a, cap, xs, by simp, by simpa using hl, by simp; omega, hsz, g1, fun _ => ⟨a, rfl, g2⟩, g3⟩
    · have := sum_le μ ((List.range len).map fun i => (G i).1) (elems.map (·.1)) (by simp [hlen]) (fun i y d hy hd => by
        have hil : i < len := by have := (List.getElem?_eq_some_iff.1 hy).1; simpa using this
        simp [hil] at hy
        rw [List.getElem?_map] at hd
        obtain ⟨z, hz, rfl⟩ := Option.map_eq_some_iff.1 hd
        rw [← hy]
        exact (hG i hil).2.2.2 z hz)
      simp only [Rows.uptoBulk]
      omega
theorem opens_int {t : TypeId} {k : IntKind} {fuel : Nat} (ht : P.underlying t = some (.int k)) : Opens enc P w base spare held t (fun i : Int => [.lit (.int k i)]) (fun _ => 1) fuel := by
  intro cs x h
  obtain ⟨i, rfl, rfl, _⟩ := DataW.trod_int ht h
  exact ⟨i, by simp [RTs, RT], fun u hu => by simp at hu; subst hu; rfl, bulk_one _⟩
end
/-- from a walk to the call: every law that takes trees and tells true -/
theorem law_call {P : Program} {f : FuncId} {ts : List T} {vs : List Value} {W : World} (h : AF P f ts (· = .lit (.bool true))) (hv : RTs (memOf W) ts vs) (hG : Glob W := by first | assumption | (intro x h; simp [globTab] at h)) : Calls P f vs.toArray W fun e W' => e = .returned (.bool true) ∧ Below W.heap.size W W' :=
  (h.2 (memOf W) W vs hG (memOf_ok W) hv).mono fun e w' ⟨v, r, M', he, hr, _, _, hrt, hb⟩ => by
    subst hr
    simp only [RT] at hrt
    rw [he, hrt]
    exact ⟨rfl, hb⟩
end Go.Proofs.YtllgibfmddihgaaDoor
namespace Go.Proofs.YtllgibfmddihgaaDoor
open Go.ChangeShapes Go.WideShapes Go.ChangeAt Go.RowKit Go.Deep
theorem listN2 {α : Type} {l : List α} (h : l.length = 2) : ∃ a b, l = [a, b] := match l, h with | [a, b], _ => ⟨a, b, rfl⟩
theorem listN3 {α : Type} {l : List α} (h : l.length = 3) : ∃ a b c, l = [a, b, c] := match l, h with | [a, b, c], _ => ⟨a, b, c, rfl⟩
theorem listN4 {α : Type} {l : List α} (h : l.length = 4) : ∃ a b c d, l = [a, b, c, d] := match l, h with | [a, b, c, d], _ => ⟨a, b, c, d, rfl⟩
theorem listN8 {α : Type} {l : List α} (h : l.length = 8) : ∃ a b c d e f g i, l = [a, b, c, d, e, f, g, i] := match l, h with | [a, b, c, d, e, f, g, i], _ => ⟨a, b, c, d, e, f, g, i, rfl⟩
theorem rts_seg {M : Mm} {ts us : List T} {cs : List Value} {o c : Nat} (h : RTs M ts ((cs.drop o).take c)) (h' : RTs M us (cs.drop (o + c))) : RTs M (ts ++ us) (cs.drop o) := by
  have := h.app h'
  rwa [← List.drop_drop, List.take_append_drop] at this
theorem rts_end {M : Mm} {cs : List Value} {o : Nat} (h : cs.length = o) : RTs M [] (cs.drop o) := by rw [← h, List.drop_length]; simp [RTs]
theorem one_seg {cs : List Value} {o c : Nat} (h : OneAll ((cs.drop o).take c)) (h' : OneAll (cs.drop (o + c))) : OneAll (cs.drop o) := by
  have := h.app h'
  rwa [← List.drop_drop, List.take_append_drop] at this
theorem one_end {cs : List Value} {o : Nat} (h : cs.length = o) : OneAll (cs.drop o) := by rw [← h, List.drop_length]; intro x hx; simp at hx
section
variable {H : Type} {enc : TypeId × Value → H} {P : Program} {w : World} {base : Nat} {spare : Nat → Bool} {held : Bool}
theorem opens_strz {t : TypeId} {fuel : Nat} (ht : P.underlying t = some .string) : Opens enc P w base spare held t (fun s : ByteArray => [.lit (.string s)]) (fun s => s.size + 1) fuel := by
  intro cs x h
  obtain ⟨i, rfl, rfl, _⟩ := DataW.trod_string ht h
  exact ⟨i, by simp [RTs, RT], fun u hu => by simp at hu; subst hu; rfl, by simp [Rows.uptoBulk]⟩
theorem cn_int : Tryd.prog.cellsOf 3 = 1 := by kernel_rfl
theorem cn_str : Tryd.prog.cellsOf 9 = 1 := by kernel_rfl
theorem cn_Y : Tryd.prog.cellsOf 64 = 3 := by kernel_rfl
theorem opensY : ∀ fuel, Opens enc Tryd.prog w base spare held 64 Y.ts Y.size fuel := by
  intro fuel
  induction fuel using Nat.strongRecOn with
  | _ fuel ih =>
    intro cs x h
    obtain ⟨ys, n, hn, rfl, hlen, hyl, hf⟩ := DataW.trod_struct Tryd.underlying64 h
    rw [cn_Y] at hlen
    obtain ⟨y0, y1, y2, rfl⟩ := listN3 hyl
    have f0 : DataW.trod enc Tryd.prog w base spare held n 3 ((cs.drop 0).take (Tryd.prog.cellsOf 3)) = some y0 := hf 0 _ rfl
    have f1 : DataW.trod enc Tryd.prog w base spare held n 9 ((cs.drop 1).take (Tryd.prog.cellsOf 9)) = some y1 := hf 1 _ rfl
    have f2 : DataW.trod enc Tryd.prog w base spare held n 37 ((cs.drop 2).take (Tryd.prog.cellsOf 37)) = some y2 := hf 2 _ rfl
    rw [cn_int] at f0
    rw [cn_str] at f1
    rw [show Tryd.prog.cellsOf 37 = 1 by kernel_rfl] at f2
    obtain ⟨a0, r0, o0, -⟩ := opens_int Tryd.underlying3 _ _ f0
    obtain ⟨a1, r1, o1, m1⟩ := opens_strz Tryd.underlying9 _ _ f1
    obtain ⟨a2, r2, o2, m2⟩ := opens_slice Y.ts Y.size 3 (by omega) Y.ts_len Tryd.underlying37 cn_Y (fun m hm => ih m (by omega)) _ _ f2
    refine ⟨.mk a0 a1 a2, ?_, ?_, ?_⟩
    · have := rts_seg r0 (rts_seg r1 (rts_seg r2 (rts_end hlen)))
      simpa [Y.ts, Y.all_eq] using this
    · have := one_seg o0 (one_seg o1 (one_seg o2 (one_end hlen)))
      simpa using this
    · simp only [Y.size, Y.sizes_sum, List.map_cons, List.map_nil, Rows.uptoBulk, Rows.uptoBulkAll] at m1 m2 ⊢
      omega
end
end Go.Proofs.YtllgibfmddihgaaDoor
namespace Go.Proofs.YtllgibfmddihgaaDoor.Mass
open Go.ChangeShapes Go.WideShapes Go.ChangeAt Go.RowKit Go.Deep
instance : Inhabited V := ⟨.mk 0 0 ⟨#[]⟩ []⟩
section
variable {H : Type} {enc : TypeId × Value → H} {P : Program} {w : World} {base : Nat} {spare : Nat → Bool} {held : Bool}
theorem opens_far {t : TypeId} {fuel : Nat} (ht : P.underlying t = some (.int .i64)) : Opens enc P w base spare held t (fun i : Int => [.lit (.int .i64 i)]) far fuel := by
  intro cs x h
  obtain ⟨i, rfl, rfl, hw⟩ := DataW.trod_int ht h
  have hin : inI i := by
    unfold inI
    simp [Lit.wf, IntKind.min, IntKind.max, IntKind.bits, IntKind.signed] at hw
    omega
  exact ⟨i, by simp [RTs, RT], fun u hu => by simp at hu; subst hu; rfl, by unfold far; rw [if_pos hin]; exact bulk_one _⟩
end
section
variable {H : Type} {enc : TypeId × Value → H} {w : World} {base : Nat} {spare : Nat → Bool} {held : Bool}
theorem opensY : ∀ fuel, Opens enc Tryd.prog w base spare held 64 Y.ts Y.mass fuel := by
  intro fuel
  induction fuel using Nat.strongRecOn with
  | _ fuel ih =>
    intro cs x h
    obtain ⟨ys, n, hn, rfl, hlen, hyl, hf⟩ := DataW.trod_struct Tryd.underlying64 h
    rw [cn_Y] at hlen
    obtain ⟨y0, y1, y2, rfl⟩ := listN3 hyl
    have f0 : DataW.trod enc Tryd.prog w base spare held n 3 ((cs.drop 0).take (Tryd.prog.cellsOf 3)) = some y0 := hf 0 _ rfl
    have f1 : DataW.trod enc Tryd.prog w base spare held n 9 ((cs.drop 1).take (Tryd.prog.cellsOf 9)) = some y1 := hf 1 _ rfl
    have f2 : DataW.trod enc Tryd.prog w base spare held n 37 ((cs.drop 2).take (Tryd.prog.cellsOf 37)) = some y2 := hf 2 _ rfl
    rw [cn_int] at f0
    rw [cn_str] at f1
    rw [show Tryd.prog.cellsOf 37 = 1 by kernel_rfl] at f2
    obtain ⟨a0, r0, o0, m0⟩ := opens_far Tryd.underlying3 _ _ f0
    obtain ⟨a1, r1, o1, m1⟩ := opens_strz Tryd.underlying9 _ _ f1
    obtain ⟨a2, r2, o2, m2⟩ := opens_slice Y.ts Y.mass 3 (by omega) Y.ts_len Tryd.underlying37 cn_Y (fun m hm => ih m (by omega)) _ _ f2
    refine ⟨.mk a0 a1 a2, ?_, ?_, ?_⟩
    · have := rts_seg r0 (rts_seg r1 (rts_seg r2 (rts_end hlen)))
      simpa [Y.ts, Y.all_eq] using this
    · have := one_seg o0 (one_seg o1 (one_seg o2 (one_end hlen)))
      simpa using this
    · simp only [Y.mass, Y.masses_sum, List.map_cons, List.map_nil, Rows.uptoBulk, Rows.uptoBulkAll] at m0 m1 m2 ⊢
      omega
theorem cn_Pat : Tryd.prog.cellsOf 109 = 4 := by kernel_rfl
theorem opensPat : ∀ fuel, Opens enc Tryd.prog w base spare held 109 V.ts V.mass fuel := by
  intro fuel
  induction fuel using Nat.strongRecOn with
  | _ fuel ih =>
    intro cs x h
    obtain ⟨ys, n, hn, rfl, hlen, hyl, hf⟩ := DataW.trod_struct Tryd.underlying109 h
    rw [cn_Pat] at hlen
    obtain ⟨y0, y1, y2, y3, rfl⟩ := listN4 hyl
    have f0 : DataW.trod enc Tryd.prog w base spare held n 3 ((cs.drop 0).take (Tryd.prog.cellsOf 3)) = some y0 := hf 0 _ rfl
    have f1 : DataW.trod enc Tryd.prog w base spare held n 3 ((cs.drop 1).take (Tryd.prog.cellsOf 3)) = some y1 := hf 1 _ rfl
    have f2 : DataW.trod enc Tryd.prog w base spare held n 9 ((cs.drop 2).take (Tryd.prog.cellsOf 9)) = some y2 := hf 2 _ rfl
    have f3 : DataW.trod enc Tryd.prog w base spare held n 107 ((cs.drop 3).take (Tryd.prog.cellsOf 107)) = some y3 := hf 3 _ rfl
    rw [cn_int] at f0 f1
    rw [cn_str] at f2
    rw [show Tryd.prog.cellsOf 107 = 1 by kernel_rfl] at f3
    obtain ⟨a0, r0, o0, m0⟩ := opens_far Tryd.underlying3 _ _ f0
    obtain ⟨a1, r1, o1, m1⟩ := opens_far Tryd.underlying3 _ _ f1
    obtain ⟨a2, r2, o2, m2⟩ := opens_strz Tryd.underlying9 _ _ f2
    obtain ⟨a3, r3, o3, m3⟩ := opens_slice V.ts V.mass 4 (by omega) V.ts_len Tryd.underlying107 cn_Pat (fun m hm => ih m (by omega)) _ _ f3
    refine ⟨.mk a0 a1 a2 a3, ?_, ?_, ?_⟩
    · have := rts_seg r0 (rts_seg r1 (rts_seg r2 (rts_seg r3 (rts_end hlen))))
      simpa [V.ts, V.all_eq] using this
    · have := one_seg o0 (one_seg o1 (one_seg o2 (one_seg o3 (one_end hlen))))
      simpa using this
    · simp only [V.mass, V.masses_sum, List.map_cons, List.map_nil, Rows.uptoBulk, Rows.uptoBulkAll] at m0 m1 m2 m3 ⊢
      omega
theorem cn_Ex : Tryd.prog.cellsOf 40 = 8 := by kernel_rfl
theorem cn_Ar : Tryd.prog.cellsOf 111 = 12 := by kernel_rfl
theorem opensAr {fuel : Nat} (ih : ∀ m, m < fuel → Opens enc Tryd.prog w base spare held 40 Ex.ts Ex.mass m) : Opens enc Tryd.prog w base spare held 111 Ar.ts Ar.mass fuel := by
  intro cs x h
  obtain ⟨ys, n, hn, rfl, hlen, hyl, hf⟩ := DataW.trod_struct Tryd.underlying111 h
  rw [cn_Ar] at hlen
  obtain ⟨y0, y1, rfl⟩ := listN2 hyl
  have f0 : DataW.trod enc Tryd.prog w base spare held n 109 ((cs.drop 0).take (Tryd.prog.cellsOf 109)) = some y0 := hf 0 _ rfl
  have f1 : DataW.trod enc Tryd.prog w base spare held n 40 ((cs.drop 4).take (Tryd.prog.cellsOf 40)) = some y1 := hf 1 _ rfl
  rw [cn_Pat] at f0
  rw [cn_Ex] at f1
  obtain ⟨a0, r0, o0, m0⟩ := opensPat _ _ _ f0
  obtain ⟨a1, r1, o1, m1⟩ := ih n (by omega) _ _ f1
  refine ⟨.mk a0 a1, ?_, ?_, ?_⟩
  · have := rts_seg r0 (rts_seg r1 (rts_end hlen))
    simpa [Ar.ts] using this
  · have := one_seg o0 (one_seg o1 (one_end hlen))
    simpa using this
  · simp only [Ar.mass, List.map_cons, List.map_nil, Rows.uptoBulk, Rows.uptoBulkAll] at m0 m1 ⊢
    omega
theorem opensEx : ∀ fuel, Opens enc Tryd.prog w base spare held 40 Ex.ts Ex.mass fuel := by
  intro fuel
  induction fuel using Nat.strongRecOn with
  | _ fuel ih =>
    intro cs x h
    obtain ⟨ys, n, hn, rfl, hlen, hyl, hf⟩ := DataW.trod_struct Tryd.underlying40 h
    rw [cn_Ex] at hlen
    obtain ⟨y0, y1, y2, y3, y4, y5, y6, y7, rfl⟩ := listN8 hyl
    have f0 : DataW.trod enc Tryd.prog w base spare held n 3 ((cs.drop 0).take (Tryd.prog.cellsOf 3)) = some y0 := hf 0 _ rfl
    rw [show Tryd.prog.cellsOf 3 = 1 by kernel_rfl] at f0
    have f1 : DataW.trod enc Tryd.prog w base spare held n 3 ((cs.drop 1).take (Tryd.prog.cellsOf 3)) = some y1 := hf 1 _ rfl
    rw [show Tryd.prog.cellsOf 3 = 1 by kernel_rfl] at f1
    have f2 : DataW.trod enc Tryd.prog w base spare held n 9 ((cs.drop 2).take (Tryd.prog.cellsOf 9)) = some y2 := hf 2 _ rfl
    rw [show Tryd.prog.cellsOf 9 = 1 by kernel_rfl] at f2
    have f3 : DataW.trod enc Tryd.prog w base spare held n 36 ((cs.drop 3).take (Tryd.prog.cellsOf 36)) = some y3 := hf 3 _ rfl
    rw [show Tryd.prog.cellsOf 36 = 1 by kernel_rfl] at f3
    have f4 : DataW.trod enc Tryd.prog w base spare held n 37 ((cs.drop 4).take (Tryd.prog.cellsOf 37)) = some y4 := hf 4 _ rfl
    rw [show Tryd.prog.cellsOf 37 = 1 by kernel_rfl] at f4
    have f5 : DataW.trod enc Tryd.prog w base spare held n 31 ((cs.drop 5).take (Tryd.prog.cellsOf 31)) = some y5 := hf 5 _ rfl
    rw [show Tryd.prog.cellsOf 31 = 1 by kernel_rfl] at f5
    have f6 : DataW.trod enc Tryd.prog w base spare held n 38 ((cs.drop 6).take (Tryd.prog.cellsOf 38)) = some y6 := hf 6 _ rfl
    rw [show Tryd.prog.cellsOf 38 = 1 by kernel_rfl] at f6
    have f7 : DataW.trod enc Tryd.prog w base spare held n 3 ((cs.drop 7).take (Tryd.prog.cellsOf 3)) = some y7 := hf 7 _ rfl
    rw [show Tryd.prog.cellsOf 3 = 1 by kernel_rfl] at f7
    obtain ⟨a0, r0, o0, m0⟩ := opens_far Tryd.underlying3 _ _ f0
    obtain ⟨a1, r1, o1, m1⟩ := opens_far Tryd.underlying3 _ _ f1
    obtain ⟨a2, r2, o2, m2⟩ := opens_strz Tryd.underlying9 _ _ f2
    obtain ⟨a3, r3, o3, m3⟩ := opens_slice strTs (fun s => s.size + 1) 1 (by omega) (fun _ => rfl) Tryd.underlying36 cn_str (fun m _ => opens_strz Tryd.underlying9) _ _ f3
    obtain ⟨a4, r4, o4, m4⟩ := opens_slice Y.ts Y.mass 3 (by omega) Y.ts_len Tryd.underlying37 cn_Y (fun m _ => opensY m) _ _ f4
    obtain ⟨a5, r5, o5, m5⟩ := opens_slice Ex.ts Ex.mass 8 (by omega) Ex.ts_len Tryd.underlying31 cn_Ex (fun m hm => ih m (by omega)) _ _ f5
    obtain ⟨a6, r6, o6, m6⟩ := opens_slice Ar.ts Ar.mass 12 (by omega) Ar.ts_len Tryd.underlying38 cn_Ar (fun m hm => opensAr (fun j hj => ih j (by omega))) _ _ f6
    obtain ⟨a7, r7, o7, m7⟩ := opens_far Tryd.underlying3 _ _ f7
    refine ⟨.mk a0 a1 a2 a3 a4 a5 a6 a7, ?_, ?_, ?_⟩
    · have := rts_seg r0 (rts_seg r1 (rts_seg r2 (rts_seg r3 (rts_seg r4 (rts_seg r5 (rts_seg r6 (rts_seg r7 (rts_end hlen))))))))
      simpa [Ex.ts, Ex.all_eq, Ar.all_eq, Y.row, Y.all_eq, strRow] using this
    · have := one_seg o0 (one_seg o1 (one_seg o2 (one_seg o3 (one_seg o4 (one_seg o5 (one_seg o6 (one_seg o7 (one_end hlen))))))))
      simpa using this
    · simp only [Ex.mass, strSize, Y.masses_sum, Ex.masses_sum, Ar.masses_sum, List.map_cons, List.map_nil, Rows.uptoBulk, Rows.uptoBulkAll] at m0 m1 m2 m3 m4 m5 m6 m7 ⊢
      omega
end
end Go.Proofs.YtllgibfmddihgaaDoor.Mass
