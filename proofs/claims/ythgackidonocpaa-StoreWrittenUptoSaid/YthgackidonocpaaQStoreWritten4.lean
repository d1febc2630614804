/-
  Texts of this proof, part 4: Tul Open Law OpenT OpenV OpenS OpenP OpenU.
-/
import Derived.Test.YthgackidonocpaaQStoreWritten3
import Derived.Deep.Slices
import Derived.JoinedCond
import Derived.MapKept
import Derived.OpenShut
import Derived.ProofKit
import Derived.Test.YthgackidonocpaaRows
namespace Go.Proofs.Ythgackidonocpaa
open Go.RowKit
set_option maxRecDepth 100000 in
set_option maxHeartbeats 4000000 in
theorem smallS_af (s : Snp) (hs : s.Small) : AF Try.prog 47 [s.t] Tell := by
  obtain ⟨s1, s2, s3⟩ := hs
  obtain ⟨tm, l, ws⟩ := s
  dsimp only at s1 s2
  refine af_enter tok Try.func47 Try.ntmps47 Try.results47 rfl (by kernel_rfl) rfl rfl fun F hX => ?_
  repeat (first | refine gG ?_ | refine zN1 (fun hlen => ?_) | refine zN2 (fun hlen => ?_) | refine zAl (fun _ => ?_) | refine zBf ?_)
  refine x_loop [2, 4, 12, 13, 14, 15, 16, 17, 18, 19] (fun k : Nat => [(12, .c (.lit (.int .i64 k)))]) (fun _ => []) (fun k => k ≤ l.length) (fun k => l.length - k) 0 (Nat.zero_le _) ⟨rfl, trivial⟩ rfl fun k hk => ?_
  repeat (first | refine gG ?_ | refine zN1 (fun hlen => ?_) | refine zN2 (fun hlen => ?_) | refine zAl (fun _ => ?_) | refine zBx (fun _ => ?_))
  refine x_cond rfl (fun h => ?_) (fun h => ?_)
  · have hk' : k < l.length := by simpa using h
    obtain ⟨a, ha⟩ := nth hk'
    obtain ⟨t1, t2⟩ := s1 a (List.mem_of_getElem? ha)
    have hp := parcelSmall_af a t1 t2
    repeat (first | refine gG ?_ | refine zN1 (fun hlen => ?_) | refine zN2 (fun hlen => ?_) | refine zAl (fun _ => ?_) | refine zBx (fun _ => ?_))
    refine zIx (k) (hk') ?_
    repeat (first | refine gG ?_ | refine zN1 (fun hlen => ?_) | refine zN2 (fun hlen => ?_) | refine zAl (fun _ => ?_) | refine zBx (fun _ => ?_))
    refine zEl (flat_at Par.ts 8 Par.ts_len ha) (Par.ts_len a) ?_
    obtain ⟨rf, ⟨ac, st, ip⟩, bx, tk, wt, lk⟩ := a
    repeat (first | refine gG ?_ | refine zN1 (fun hlen => ?_) | refine zN2 (fun hlen => ?_) | refine zAl (fun _ => ?_) | refine zBx (fun _ => ?_))
    refine zCall (hp) ?_
    rintro _ ⟨b, rfl⟩
    cases b
    · repeat (first | refine gG ?_ | refine zN1 (fun hlen => ?_) | refine zN2 (fun hlen => ?_) | refine zAl (fun _ => ?_) | refine zBx (fun _ => ?_))
      first | refine zR ?_ | refine zQ ?_
      exact ⟨_, rfl⟩
    · repeat (first | refine gG ?_ | refine zN1 (fun hlen => ?_) | refine zN2 (fun hlen => ?_) | refine zAl (fun _ => ?_) | refine zBx (fun _ => ?_))
      exact ⟨k + 1, hk', by omega, x_wkd 0 ⟨rfl, trivial⟩ rfl (by repeat (first | exact ag_refl | refine ag_upd rfl ?_ | refine ag_at rfl rfl ?_))⟩
  repeat (first | refine gG ?_ | refine zN1 (fun hlen => ?_) | refine zN2 (fun hlen => ?_) | refine zAl (fun _ => ?_) | refine zBx (fun _ => ?_))
  refine x_loop [2, 6, 8, 23, 24, 25, 26, 27, 28, 29, 30, 31, 32, 33, 34, 35, 36, 37, 38, 39] (fun k : Nat => [(23, .c (.lit (.int .i64 k)))]) (fun _ => []) (fun k => k ≤ ws.length) (fun k => ws.length - k) 0 (Nat.zero_le _) ⟨rfl, trivial⟩ rfl fun k hk => ?_
  repeat (first | refine gG ?_ | refine zN1 (fun hlen => ?_) | refine zN2 (fun hlen => ?_) | refine zAl (fun _ => ?_) | refine zBx (fun _ => ?_))
  refine x_cond rfl (fun h => ?_) (fun h => ?_)
  rotate_left
  · repeat (first | refine gG ?_ | refine zN1 (fun hlen => ?_) | refine zN2 (fun hlen => ?_) | refine zAl (fun _ => ?_) | refine zBx (fun _ => ?_))
    first | refine zR ?_ | refine zQ ?_
    exact ⟨_, rfl⟩
  have hk' : k < ws.length := by simpa using h
  obtain ⟨a, ha⟩ := nth hk'
  have hst := s2 a (List.mem_of_getElem? ha)
  repeat (first | refine gG ?_ | refine zN1 (fun hlen => ?_) | refine zN2 (fun hlen => ?_) | refine zAl (fun _ => ?_) | refine zBx (fun _ => ?_))
  refine zIx (k) (hk') ?_
  repeat (first | refine gG ?_ | refine zN1 (fun hlen => ?_) | refine zN2 (fun hlen => ?_) | refine zAl (fun _ => ?_) | refine zBx (fun _ => ?_))
  refine zEl (flat_at Wy.ts 3 Wy.ts_len ha) (Wy.ts_len a) ?_
  obtain ⟨fr, to, ls⟩ := a
  dsimp only at hst
  repeat (first | refine gG ?_ | refine zN1 (fun hlen => ?_) | refine zN2 (fun hlen => ?_) | refine zAl (fun _ => ?_) | refine zBx (fun _ => ?_))
  rename_i bw
  refine x_loop [2, 8, 30, 31, 32, 33, 34, 35, 36, 37, 38] (fun j : Nat => [(30, .c (.lit (.int .i64 j)))]) (fun _ => [.box bw 183 [.c (.lit (.int .i64 fr)), .c (.lit (.int .i64 to)), .c (letRow ls)]]) (fun j => j ≤ ls.length) (fun j => ls.length - j) 0 (Nat.zero_le _) ⟨rfl, trivial⟩ rfl fun j hj => ?_
  repeat (first | refine gG ?_ | refine zN1 (fun hlen => ?_) | refine zN2 (fun hlen => ?_) | refine zAl (fun _ => ?_) | refine zBx (fun _ => ?_))
  refine x_cond rfl (fun h => ?_) (fun h => ?_)
  · have hj' : j < ls.length := by simpa using h
    obtain ⟨x, hx⟩ := nth hj'
    have hv := valueSmall_af x.val (hst x (List.mem_of_getElem? hx)).2.1
    repeat (first | refine gG ?_ | refine zN1 (fun hlen => ?_) | refine zN2 (fun hlen => ?_) | refine zAl (fun _ => ?_) | refine zBx (fun _ => ?_))
    refine zIx (j) (hj') ?_
    repeat (first | refine gG ?_ | refine zN1 (fun hlen => ?_) | refine zN2 (fun hlen => ?_) | refine zAl (fun _ => ?_) | refine zBx (fun _ => ?_))
    refine zEl (flat_at Lt.ts 9 Lt.ts_len hx) (Lt.ts_len x) ?_
    obtain ⟨ka, fa, ta, na, sa, ⟨kv, nv, tv, lv⟩⟩ := x
    simp only [Lt.val] at hv
    repeat (first | refine gG ?_ | refine zN1 (fun hlen => ?_) | refine zN2 (fun hlen => ?_) | refine zAl (fun _ => ?_) | refine zBx (fun _ => ?_))
    refine zCall (hv) ?_
    rintro _ ⟨b, rfl⟩
    cases b
    · repeat (first | refine gG ?_ | refine zN1 (fun hlen => ?_) | refine zN2 (fun hlen => ?_) | refine zAl (fun _ => ?_) | refine zBx (fun _ => ?_))
      first | refine zR ?_ | refine zQ ?_
      exact ⟨_, rfl⟩
    · repeat (first | refine gG ?_ | refine zN1 (fun hlen => ?_) | refine zN2 (fun hlen => ?_) | refine zAl (fun _ => ?_) | refine zBx (fun _ => ?_))
      exact ⟨j + 1, hj', by omega, x_wkd 1 ⟨rfl, trivial⟩ rfl (by repeat (first | exact ag_refl | refine ag_upd rfl ?_ | refine ag_at rfl rfl ?_))⟩
  · repeat (first | refine gG ?_ | refine zN1 (fun hlen => ?_) | refine zN2 (fun hlen => ?_) | refine zAl (fun _ => ?_) | refine zBx (fun _ => ?_))
    exact ⟨k + 1, hk', by omega, x_wkd 0 ⟨rfl, trivial⟩ rfl (by repeat (first | exact ag_refl | refine ag_upd rfl ?_ | refine ag_at rfl rfl ?_))⟩
def Snp.zero : Snp := ⟨0, [], []⟩
theorem zero_snp : Snp.zero.Small ∧ Snp.zero.err = 0 ∧ Snp.zero.out.length = 10 := by
  have hc : Snp.zero.check = 0 := by rfl
  have he := Snp.err_eq hc
  refine ⟨⟨fun p hp => by simp [Snp.zero] at hp, fun w hw => by simp [Snp.zero] at hw, by simp [Snp.zero, inI]⟩, ?_, ?_⟩
  · rw [he.2]; rfl
  · rw [he.1]
    rw [if_neg (by decide)]
    simp [Snp.bytes, Snp.zero, headB, numB_len]
set_option maxRecDepth 100000 in
set_option maxHeartbeats 4000000 in
theorem storeWritten_law (x : Snp) (hs : x.Small) : AF Try.prog 8 [x.t] (· = .lit (.bool true)) := by
  have h1 := storeBytes_af Snp.zero zero_snp.1
  obtain ⟨-, z2, z3⟩ := zero_snp
  rw [z2] at h1
  generalize Snp.zero.out = zo at *
  have hz : decide ((zo.length : Int) = 10) = true := decide_eq_true (by omega)
  have h4 := smallS_af x hs
  have h5 := storeBytes_af x hs
  have h6 := snapBytes_af x hs
  have h7 := checkSnap_af x
  have h8 := snapFault_af x hs
  have h9 := sameBytes_af x.out x.out
  have e2 : decide (bs x.out = bs x.out) = true := by simp
  rw [e2] at h9
  have e3 : decide (x.check = x.check) = true := by simp
  have e4 : decide (x.err = x.err) = true := by simp
  clear hs
  generalize x.out = o at *
  generalize x.err = e at *
  generalize x.check = c at *
  obtain ⟨tm, l, ws⟩ := x
  refine af_enter tok Try.func8 Try.ntmps8 Try.results8 rfl (by kernel_rfl) rfl rfl fun F hX => ?_
  repeat (first | refine gG ?_ | refine zN1 (fun hlen => ?_) | refine zN2 (fun hlen => ?_) | refine zBf ?_)
  refine zCall (h1) ?_
  rintro _ rfl
  repeat (first | refine gG ?_ | refine zN1 (fun hlen => ?_) | refine zN2 (fun hlen => ?_) | refine zBx (fun _ => ?_))
  refine zCall (h4) ?_
  rintro _ ⟨q, rfl⟩
  cases q
  · repeat (first | refine gG ?_ | refine zN1 (fun hlen => ?_) | refine zN2 (fun hlen => ?_) | refine zBx (fun _ => ?_))
    first | refine zR ?_ | refine zQ ?_
    rfl
  · repeat (first | refine gG ?_ | refine zN1 (fun hlen => ?_) | refine zN2 (fun hlen => ?_) | refine zBx (fun _ => ?_))
    refine zCall (h5) ?_
    rintro _ rfl
    repeat (first | refine gG ?_ | refine zN1 (fun hlen => ?_) | refine zN2 (fun hlen => ?_) | refine zBx (fun _ => ?_))
    refine zCall (h6) ?_
    rintro _ rfl
    repeat (first | refine gG ?_ | refine zN1 (fun hlen => ?_) | refine zN2 (fun hlen => ?_) | refine zBx (fun _ => ?_))
    refine ac_draw [1, 1, 1, 1, 1, 1, 1, 1, 1, 1, 1, 1, 1, 1, 1, 1] [0, 1, 2, 3, 4, 5, 6, 7, 8, 9, 10, 11, 12, 13, 14, 15] (by kernel_rfl) (by kernel_rfl) ?_
    refine gW ?_
    apply w_q; (focus exact rfl); (focus exact rfl); focus (intro _; (refine lo_call h7 rfl (by repeat (first | exact rzs_nil | apply rzs_cons | exact rz_c | exact rz_nil rfl | apply rz_agg | exact rz_own rfl | apply rz_fn | exact rz_ptr rfl | apply rz_tup)) ?_; rintro _ rfl); exact det_refl)
    refine gW ?_
    apply w_q; (focus exact rfl); (focus exact rfl); focus (intro _; (refine lo_call h8 rfl (by repeat (first | exact rzs_nil | apply rzs_cons | exact rz_c | exact rz_nil rfl | apply rz_agg | exact rz_own rfl | apply rz_fn | exact rz_ptr rfl | apply rz_tup)) ?_; rintro _ rfl); exact det_refl)
    refine gW ?_
    try (first | (apply w_un; (focus exact rfl); (focus exact rfl); (focus exact rfl); (focus exact rfl)) | (apply w_no; (focus exact rfl); (focus exact rfl); (focus exact rfl); (focus exact rfl); focus (first | rfl | assumption | exact neg_t (by assumption) | exact neg_f (by assumption))) | (apply w_qg; (focus exact rfl); (focus exact rfl); (focus exact rfl); (focus exact rfl); (focus (first | rfl | assumption | exact neg_t (by assumption) | exact neg_f (by assumption))); (focus (intro _; (refine lo_call h9 rfl (by repeat (first | exact rzs_nil | apply rzs_cons | exact rz_c | exact rz_nil rfl | apply rz_agg | exact rz_own rfl | apply rz_fn | exact rz_ptr rfl | apply rz_tup)) ?_; rintro _ rfl); exact det_refl))))
    try refine gW ?_
    refine w_nil ?_
    repeat (first | refine gG ?_ | refine zN1 (fun hlen => ?_) | refine zN2 (fun hlen => ?_) | refine zBx (fun _ => ?_))
    first | refine zR ?_ | refine zQ ?_
    simp only [e4]; rfl
end Go.Proofs.Ythgackidonocpaa
namespace Go.Proofs.Ythgackidonocpaa
open Go.ChangeShapes Go.WideShapes Go.ChangeAt Go.RowKit Go.Deep
section
variable {H : Type} {enc : TypeId × Value → H} {P : Program} {w : World} {base : Nat} {spare : Nat → Bool} {held : Bool}
theorem bulk_one (d : DataW H) : 1 ≤ Rows.uptoBulk d := by
  cases d with
  | lit l => cases l <;> simp [Rows.uptoBulk]
  | _ => simp [Rows.uptoBulk]
end
end Go.Proofs.Ythgackidonocpaa
namespace Go.Proofs.Ythgackidonocpaa
open Go.ChangeShapes Go.WideShapes Go.ChangeAt Go.RowKit
theorem own : ownKnob Try.prog.godebug = none := by kernel_rfl
theorem laidOut : laidOutB Try.prog = true := by kernel_rfl
section
variable {H : Type} {enc : TypeId × Value → H}
theorem trodAll_below {P : Program} (hl : laidOutB P = true) {W W' : World} (hb : Below W.heap.size W W') (ts : List TypeId) : ∀ (vs : List Value) (ds : List (DataW H)) (ps : List MemPlace),
    (ts.all fun t => P.readableRec t && decide (t < P.types.size)) = true → DataW.TrodAll enc P W 0 (fun _ => true) true ts vs ds ps → (∀ x ∈ ps, x.block < W.heap.size) →
    DataW.TrodAll enc P W' 0 (fun b => decide (b < W.heap.size)) true ts vs ds ps := by
  induction ts with
  | nil =>
    intro vs ds ps _ h _
    obtain ⟨rfl, rfl, rfl⟩ := trodAll_nil h
    rfl
  | cons t ts ih =>
    intro vs ds ps hr h hlt
    obtain ⟨v, vs', d, ds', p, q, rfl, rfl, rfl, h0, h1⟩ := trodAll_cons h
    simp only [List.all_cons, Bool.and_eq_true, decide_eq_true_eq] at hr
    refine ⟨p, q, Below.trod hl hr.1.1 hr.1.2 h0 hb fun x hx => hlt x (List.mem_append_left _ hx), ?_, rfl⟩
    exact ih vs' ds' q hr.2 h1 fun x hx => hlt x (List.mem_append_right _ hx)
theorem law_post {f : Func} {s : ChangeSpec} {W W' : World} {args : Array Value} {ds gs : List (DataW H)} {before : List MemPlace}
    (hW : DataW.Whole enc Try.prog f.params.toList s.vars false W args.toList ds gs before) (hv : s.vars = []) (hrt : f.resultTypes = #[4])
    (hr : (f.params.toList.all fun t => Try.prog.readableRec t && decide (t < Try.prog.types.size)) = true)
    (hres : (s.fn H (ds ++ gs)).results = [.lit (.bool true)]) (hargs : (s.fn H (ds ++ gs)).args = ds) (hvars : (s.fn H (ds ++ gs)).vars = []) (hb : Below W.heap.size W W') :
    s.post enc Try.prog f false true false false W args (.bool true) W' := by
  have hlt : ∀ p ∈ before, p.block < W.heap.size := fun p hp => hW.lt p hp
  have hW' := hW
  obtain ⟨p, q, hA, hV, rfl, _, _⟩ := hW'
  rw [hv] at hV
  obtain ⟨rfl, rfl⟩ := trodVars_none hV
  rw [List.append_nil] at hlt
  refine ⟨ds, [], _, [], p, [], hW, ?_, ?_, ?_, hb.frame _ |> World.keptBut_mono (fun x hx => ⟨hx, ?_⟩), fun h => by cases h⟩
  · rw [hrt, hres]
    exact trodAll_mk1 (shut_bool Try.underlying4 true)
  · rw [hargs]
    exact trodAll_below laidOut hb _ _ _ _ hr hA hlt
  · rw [hvars, hv]
    rfl
  · rw [List.append_nil] at hx
    exact .inr (.inl hx)
end
end Go.Proofs.Ythgackidonocpaa
namespace Go.Proofs.Ythgackidonocpaa
open Go.ChangeShapes Go.WideShapes Go.ChangeAt Go.RowKit Go.Deep
/-- all memory of a world -/
def memOf (w : World) : Mm := frz (fun _ => none) 0 w
theorem memOf_ok (w : World) : MemOk (memOf w) w := frz_ok (fun p v h => by cases h) 0
theorem memOf_at {w : World} {p : Addr} {v : Value} (h : w.cell? p = some v) (h1 : v.oneCell' = true) : memOf w p = some v := frz_new rfl (Nat.zero_le _) h h1
section
variable {H : Type} {enc : TypeId × Value → H} {P : Program} {w : World} {base : Nat} {spare : Nat → Bool} {held : Bool}
def Opens (enc : TypeId × Value → H) (P : Program) (w : World) (base : Nat) (spare : Nat → Bool) (held : Bool) (t : TypeId) {α : Type} (f : α → List T) (μ : α → Nat) (fuel : Nat) : Prop :=
  ∀ (cs : List Value) (x : DataW H × List MemPlace), DataW.trod enc P w base spare held fuel t cs = some x → ∃ a, RTs (memOf w) (f a) cs ∧ OneAll cs ∧ μ a ≤ Rows.uptoBulk x.1
theorem sum_le {α : Type} (μ : α → Nat) : ∀ (l : List α) (ds : List (DataW H)), l.length = ds.length → (∀ (i : Nat) (a : α) (d : DataW H), l[i]? = some a → ds[i]? = some d → μ a ≤ Rows.uptoBulk d) → (l.map μ).sum ≤ Rows.uptoBulkAll ds
  | [], [], _, _ => by simp [Rows.uptoBulkAll]
  | a :: l, d :: ds, hl, h => by
    have h1 := h 0 a d rfl rfl
    have h2 := sum_le μ l ds (by simpa using hl) fun i a d ha hd => h (i + 1) a d (by simpa using ha) (by simpa using hd)
    simp only [List.map_cons, List.sum_cons, Rows.uptoBulkAll]
    omega
  | [], _ :: _, hl, _ => by simp at hl
  | _ :: _, [], hl, _ => by simp at hl
theorem snoc_ind {α : Type} {p : List α → Prop} (h0 : p []) (h1 : ∀ l x, p l → p (l ++ [x])) (l : List α) : p l := by
  have : ∀ n (l : List α), l.length = n → p l := by
    intro n
    induction n with
    | zero => intro l hl; rw [List.eq_nil_of_length_eq_zero hl]; exact h0
    | succ n ih =>
      intro l hl
      have hne : l ≠ [] := fun e => by rw [e] at hl; cases hl
      rw [← List.dropLast_concat_getLast hne]
      exact h1 _ _ (ih _ (by simp [hl]))
  exact this l.length l rfl
theorem rows_of {α : Type} (f : α → List T) (sz : Nat) (hf : ∀ a, (f a).length = sz) {a : Addr} : ∀ (l : List α) (C : Nat → List Value), (∀ (i : Nat) (x : α), l[i]? = some x → RTs (memOf w) (f x) (C i) ∧ OneAll (C i) ∧ ∀ j u, (C i)[j]? = some u → w.cell? (a.add (i * sz + j)) = some u) →
    ∃ xs : List Value, xs.length = l.length * sz ∧ At (memOf w) a xs ∧ RTs (memOf w) (l.flatMap f) xs := by
  intro l
  induction l using snoc_ind with
  | h0 => exact fun _ _ => ⟨[], by simp, fun j x h => by simp at h, by simp [RTs]⟩
  | h1 l x ih =>
    intro C h
    obtain ⟨xs, h1, h2, h3⟩ := ih C fun i y hy => h i y (by rw [List.getElem?_append_left (List.getElem?_eq_some_iff.1 hy).1]; exact hy)
    obtain ⟨g1, g2, g3⟩ := h l.length x (by simp)
    have hcl := g1.len
    rw [hf] at hcl
    refine ⟨xs ++ C l.length, by simp [h1, hcl, Nat.add_mul], fun j u hu => ?_, ?_⟩
    · rw [List.getElem?_append] at hu
      split at hu
      · exact h2 j u hu
      · have := g3 _ u hu
        rw [show l.length * sz + (j - xs.length) = j by omega] at this
        exact memOf_at this (g2 u (List.mem_of_getElem? hu))
    · rw [List.flatMap_append]
      refine h3.app ?_
      simpa using g1
theorem opens_slice {α : Type} [Inhabited α] {t e : TypeId} (f : α → List T) (μ : α → Nat) (sz : Nat) (hsz : 0 < sz) (hf : ∀ a, (f a).length = sz) {fuel : Nat} (ht : P.underlying t = some (.slice e)) (hC : P.cellsOf e = sz)
    (hel : ∀ n, n < fuel → Opens enc P w base spare held e f μ n) : Opens enc P w base spare held t (fun l : List α => [.row l.length sz (l.flatMap f)]) (fun l => (l.map μ).sum + 1) fuel := by
  intro cs x h
  rcases DataW.trod_slice ht h with ⟨rfl, rfl⟩ | ⟨a, len, cap, elems, rest, n, hn, rfl, rfl, hb, hl, hm, hlen, hi, _, _⟩
  · refine ⟨[], ?_, fun u hu => by simp at hu; subst hu; rfl, by simp [Rows.uptoBulk]⟩
    simp only [RTs]
    exact ⟨_, _, rfl, rt_nil hsz (by simp only [RT]), rfl⟩
  · rw [hC] at hi
    have hv : ∀ i, i < len → ∃ p : α × List Value, (p.2.length = sz ∧ ∀ j u, p.2[j]? = some u → w.cell? (a.add (i * sz + j)) = some u) ∧ RTs (memOf w) (f p.1) p.2 ∧ OneAll p.2 ∧ ∀ y, elems[i]? = some y → μ p.1 ≤ Rows.uptoBulk y.1 := by
      intro i hil
      have hk := hi i hil
      rw [List.getElem?_eq_getElem (by omega)] at hk
      obtain ⟨cs', h1, h2⟩ := Option.bind_eq_some_iff.1 hk
      obtain ⟨el, h3, h4, h5⟩ := hel n (by omega) _ _ h2
      obtain ⟨_, hlen', hcell⟩ := World.cells?_some h1
      refine ⟨(el, cs'), ⟨hlen', fun j u hu => ?_⟩, h3, h4, fun y hy => ?_⟩
      · have hj : j < sz := by rw [← hlen']; exact (List.getElem?_eq_some_iff.1 hu).1
        rw [← hu, ← hcell j hj, add_add']
      · rw [List.getElem?_eq_getElem (by omega)] at hy
        injection hy with hy
        rw [← hy]; exact h5
    obtain ⟨G, hG⟩ := choose_lt (α := α × List Value) hv
    obtain ⟨xs, g1, g2, g3⟩ := rows_of (w := w) (a := a) f sz hf ((List.range len).map fun i => (G i).1) (fun i => (G i).2) (fun i x hx => by
      have hil : i < len := by have := (List.getElem?_eq_some_iff.1 hx).1; simpa using this
      simp [hil] at hx
      obtain ⟨k1, k2, k3, _⟩ := hG i hil
      rw [← hx]
      exact ⟨k2, k3, k1.2⟩)
    refine ⟨(List.range len).map fun i => (G i).1, ?_, fun u hu => by simp at hu; subst hu; rfl, ?_⟩
    · simp only [RTs]
      refine ⟨_, _, rfl, ?_, rfl⟩
      simp only [RT]
      exact ⟨some a, cap, xs, by simp, by simpa using hl, by simp; omega, hsz, g1, fun _ => ⟨a, rfl, g2⟩, g3⟩
    · have := sum_le μ ((List.range len).map fun i => (G i).1) (elems.map (·.1)) (by simp [hlen]) (fun i y d hy hd => by
        have hil : i < len := by have := (List.getElem?_eq_some_iff.1 hy).1; simpa using this
        simp [hil] at hy
        rw [List.getElem?_map] at hd
        obtain ⟨z, hz, rfl⟩ := Option.map_eq_some_iff.1 hd
        rw [← hy]
        exact (hG i hil).2.2.2 z hz)
      simp only [Rows.uptoBulk]
      omega
end
/-- from a walk to the call: every law that takes trees and tells true -/
theorem law_call {P : Program} {f : FuncId} {ts : List T} {vs : List Value} {W : World} (h : AF P f ts (· = .lit (.bool true))) (hv : RTs (memOf W) ts vs) : Calls P f vs.toArray W fun e W' => e = .returned (.bool true) ∧ Below W.heap.size W W' :=
  (h.2 (memOf W) W vs (memOf_ok W) hv).mono fun e w' ⟨v, r, M', he, hr, _, _, hrt, hb⟩ => by
    subst hr
    simp only [RT] at hrt
    rw [he, hrt]
    exact ⟨rfl, hb⟩
end Go.Proofs.Ythgackidonocpaa
namespace Go.Proofs.Ythgackidonocpaa
open Go.ChangeShapes Go.WideShapes Go.ChangeAt Go.RowKit Go.Deep
theorem listN4 {α : Type} {l : List α} (h : l.length = 4) : ∃ a b c d, l = [a, b, c, d] := match l, h with | [a, b, c, d], _ => ⟨a, b, c, d, rfl⟩
theorem rts_seg {M : Mm} {ts us : List T} {cs : List Value} {o c : Nat} (h : RTs M ts ((cs.drop o).take c)) (h' : RTs M us (cs.drop (o + c))) : RTs M (ts ++ us) (cs.drop o) := by
  have := h.app h'
  rwa [← List.drop_drop, List.take_append_drop] at this
theorem rts_end {M : Mm} {cs : List Value} {o : Nat} (h : cs.length = o) : RTs M [] (cs.drop o) := by rw [← h, List.drop_length]; simp [RTs]
theorem one_seg {cs : List Value} {o c : Nat} (h : OneAll ((cs.drop o).take c)) (h' : OneAll (cs.drop (o + c))) : OneAll (cs.drop o) := by
  have := h.app h'
  rwa [← List.drop_drop, List.take_append_drop] at this
theorem one_end {cs : List Value} {o : Nat} (h : cs.length = o) : OneAll (cs.drop o) := by rw [← h, List.drop_length]; intro x hx; simp at hx
instance (n : Int) : Decidable (inI n) := by unfold inI; infer_instance
instance : Inhabited V := ⟨.mk 0 0 ⟨#[]⟩ []⟩
/-- a number, heavy where it is out of range -/
def far (n : Int) : Nat := if inI n then 1 else 1099511627776
mutual
def V.mass : V → Nat
  | .mk k n t l => far k + far n + t.size + V.masses l
def V.masses : List V → Nat
  | [] => 0
  | v :: r => v.mass + V.masses r
end
theorem far_in {n : Int} (h : far n ≤ 1048576) : inI n := by
  unfold far at h
  split at h
  · assumption
  · omega
theorem far_pos (n : Int) : 1 ≤ far n := by unfold far; split <;> omega
mutual
theorem V.mass_ok : ∀ v : V, v.mass ≤ 1048576 → v.ok ∧ v.size + v.txt ≤ v.mass
  | .mk k n t l, h => by
    simp only [V.mass] at h
    have h1 := far_pos n
    have h4 := far_pos k
    have h2 := V.masses_ok l (by omega)
    have h3 : inI n := far_in (by omega)
    simp only [V.ok, V.size, V.txt, V.mass]
    exact ⟨⟨h3, h2.1⟩, by omega⟩
theorem V.masses_ok : ∀ l : List V, V.masses l ≤ 1048576 → V.oks l ∧ V.sizes l + V.txts l ≤ V.masses l
  | [], _ => by simp [V.oks, V.sizes, V.txts]
  | v :: l, h => by
    simp only [V.masses] at h
    have h1 := V.mass_ok v (by omega)
    have h2 := V.masses_ok l (by omega)
    simp only [V.oks, V.sizes, V.txts, V.masses]
    exact ⟨⟨h1.1, h2.1⟩, by omega⟩
end
theorem V.masses_sum : ∀ l : List V, V.masses l = (l.map V.mass).sum
  | [] => rfl
  | v :: l => by simp [V.masses, V.masses_sum l]
section
variable {H : Type} {enc : TypeId × Value → H} {P : Program} {w : World} {base : Nat} {spare : Nat → Bool} {held : Bool}
theorem opens_strz {t : TypeId} {fuel : Nat} (ht : P.underlying t = some .string) : Opens enc P w base spare held t (fun s : ByteArray => [.lit (.string s)]) (fun s => s.size + 1) fuel := by
  intro cs x h
  obtain ⟨i, rfl, rfl, _⟩ := DataW.trod_string ht h
  exact ⟨i, by simp [RTs, RT], fun u hu => by simp at hu; subst hu; rfl, by simp [Rows.uptoBulk]⟩
theorem opens_far {t : TypeId} {fuel : Nat} (ht : P.underlying t = some (.int .i64)) : Opens enc P w base spare held t (fun i : Int => [.lit (.int .i64 i)]) far fuel := by
  intro cs x h
  obtain ⟨i, rfl, rfl, hw⟩ := DataW.trod_int ht h
  have hin : inI i := by
    unfold inI
    simp [Lit.wf, IntKind.min, IntKind.max, IntKind.bits, IntKind.signed] at hw
    omega
  exact ⟨i, by simp [RTs, RT], fun u hu => by simp at hu; subst hu; rfl, by unfold far; rw [if_pos hin]; exact bulk_one _⟩
theorem cn_int : Try.prog.cellsOf 3 = 1 := by kernel_rfl
theorem cn_str : Try.prog.cellsOf 9 = 1 := by kernel_rfl
theorem cn_val : Try.prog.cellsOf 24 = 4 := by kernel_rfl
theorem cn_vals : Try.prog.cellsOf 22 = 1 := by kernel_rfl
theorem opensV : ∀ fuel, Opens enc Try.prog w base spare held 24 V.ts V.mass fuel := by
  intro fuel
  induction fuel using Nat.strongRecOn with
  | _ fuel ih =>
    intro cs x h
    obtain ⟨ys, n, hn, rfl, hlen, hyl, hf⟩ := DataW.trod_struct Try.underlying24 h
    rw [cn_val] at hlen
    obtain ⟨y0, y1, y2, y3, rfl⟩ := listN4 hyl
    have f0 : DataW.trod enc Try.prog w base spare held n 3 ((cs.drop 0).take (Try.prog.cellsOf 3)) = some y0 := hf 0 _ rfl
    have f1 : DataW.trod enc Try.prog w base spare held n 3 ((cs.drop 1).take (Try.prog.cellsOf 3)) = some y1 := hf 1 _ rfl
    have f2 : DataW.trod enc Try.prog w base spare held n 9 ((cs.drop 2).take (Try.prog.cellsOf 9)) = some y2 := hf 2 _ rfl
    have f3 : DataW.trod enc Try.prog w base spare held n 22 ((cs.drop 3).take (Try.prog.cellsOf 22)) = some y3 := hf 3 _ rfl
    rw [cn_int] at f0 f1
    rw [cn_str] at f2
    rw [cn_vals] at f3
    obtain ⟨a0, r0, o0, m0⟩ := opens_far Try.underlying3 _ _ f0
    obtain ⟨a1, r1, o1, m1⟩ := opens_far Try.underlying3 _ _ f1
    obtain ⟨a2, r2, o2, m2⟩ := opens_strz Try.underlying9 _ _ f2
    obtain ⟨a3, r3, o3, m3⟩ := opens_slice V.ts V.mass 4 (by omega) V.ts_len Try.underlying22 cn_val (fun m hm => ih m (by omega)) _ _ f3
    refine ⟨.mk a0 a1 a2 a3, ?_, ?_, ?_⟩
    · have := rts_seg r0 (rts_seg r1 (rts_seg r2 (rts_seg r3 (rts_end hlen))))
      simpa [V.ts, V.all_eq] using this
    · have := one_seg o0 (one_seg o1 (one_seg o2 (one_seg o3 (one_end hlen))))
      simpa using this
    · simp only [V.mass, V.masses_sum, List.map_cons, List.map_nil, Rows.uptoBulk, Rows.uptoBulkAll] at m0 m1 m2 m3 ⊢
      omega
end
end Go.Proofs.Ythgackidonocpaa
namespace Go.Proofs.Ythgackidonocpaa
open Go.ChangeShapes Go.WideShapes Go.ChangeAt Go.RowKit Go.Deep
theorem listQ2 {α : Type} {l : List α} (h : l.length = 2) : ∃ a b, l = [a, b] := match l, h with | [a, b], _ => ⟨a, b, rfl⟩
theorem listQ3 {α : Type} {l : List α} (h : l.length = 3) : ∃ a b c, l = [a, b, c] := match l, h with | [a, b, c], _ => ⟨a, b, c, rfl⟩
theorem listQ6 {α : Type} {l : List α} (h : l.length = 6) : ∃ a b c d e f, l = [a, b, c, d, e, f] := match l, h with | [a, b, c, d, e, f], _ => ⟨a, b, c, d, e, f, rfl⟩
instance : Inhabited Inp := ⟨⟨0, V.zero⟩⟩
def Inp.mass (x : Inp) : Nat := far x.kind + x.val.mass
def Sav.cells (s : Sav) : List T := [.lit (.string s.actor), V.row s.state, inpRow s.inputs]
def Sav.mass (s : Sav) : Nat := s.actor.size + ((s.state.map V.mass).sum + (s.inputs.map Inp.mass).sum)
section
variable {H : Type} {enc : TypeId × Value → H} {w : World} {base : Nat} {spare : Nat → Bool} {held : Bool}
theorem cn_inp : Try.prog.cellsOf 163 = 5 := by kernel_rfl
theorem cn_inps : Try.prog.cellsOf 45 = 1 := by kernel_rfl
theorem cn_sav : Try.prog.cellsOf 47 = 3 := by kernel_rfl
theorem opensInp (fuel : Nat) : Opens enc Try.prog w base spare held 163 Inp.ts Inp.mass fuel := by
  intro cs x h
  obtain ⟨ys, n, hn, rfl, hlen, hyl, hf⟩ := DataW.trod_struct Try.underlying163 h
  rw [cn_inp] at hlen
  obtain ⟨y0, y1, rfl⟩ := listQ2 hyl
  have f0 : DataW.trod enc Try.prog w base spare held n 3 ((cs.drop 0).take (Try.prog.cellsOf 3)) = some y0 := hf 0 _ rfl
  rw [cn_int] at f0
  have f1 : DataW.trod enc Try.prog w base spare held n 24 ((cs.drop 1).take (Try.prog.cellsOf 24)) = some y1 := hf 1 _ rfl
  rw [cn_val] at f1
  obtain ⟨a0, r0, o0, m0⟩ := opens_far Try.underlying3 _ _ f0
  obtain ⟨a1, r1, o1, m1⟩ := opensV _ _ _ f1
  refine ⟨⟨a0, a1⟩, ?_, ?_, ?_⟩
  · have := rts_seg r0 (rts_seg r1 (rts_end hlen))
    simpa [Inp.ts, Inp.mass] using this
  · have := one_seg o0 (one_seg o1 (one_end hlen))
    simpa using this
  · simp only [Inp.ts, Inp.mass, List.map_cons, List.map_nil, Rows.uptoBulk, Rows.uptoBulkAll] at m0 m1 ⊢
    omega
theorem opensVs (fuel : Nat) : Opens enc Try.prog w base spare held 22 (fun l : List V => [V.row l]) (fun l => (l.map V.mass).sum + 1) fuel := by
  intro cs x h
  obtain ⟨l, h1, h2, h3⟩ := opens_slice V.ts V.mass 4 (by omega) V.ts_len Try.underlying22 cn_val (fun m _ => opensV m) cs x h
  exact ⟨l, by simpa [V.row, V.all_eq] using h1, h2, h3⟩
theorem opensIs (fuel : Nat) : Opens enc Try.prog w base spare held 45 (fun l : List Inp => [inpRow l]) (fun l => (l.map Inp.mass).sum + 1) fuel := by
  intro cs x h
  obtain ⟨l, h1, h2, h3⟩ := opens_slice Inp.ts Inp.mass 5 (by omega) Inp.ts_len Try.underlying45 cn_inp (fun m _ => opensInp m) cs x h
  exact ⟨l, by simpa [inpRow] using h1, h2, h3⟩
theorem opensSav (fuel : Nat) : Opens enc Try.prog w base spare held 47 Sav.cells Sav.mass fuel := by
  intro cs x h
  obtain ⟨ys, n, hn, rfl, hlen, hyl, hf⟩ := DataW.trod_struct Try.underlying47 h
  rw [cn_sav] at hlen
  obtain ⟨y0, y1, y2, rfl⟩ := listQ3 hyl
  have f0 : DataW.trod enc Try.prog w base spare held n 9 ((cs.drop 0).take (Try.prog.cellsOf 9)) = some y0 := hf 0 _ rfl
  rw [cn_str] at f0
  have f1 : DataW.trod enc Try.prog w base spare held n 22 ((cs.drop 1).take (Try.prog.cellsOf 22)) = some y1 := hf 1 _ rfl
  rw [cn_vals] at f1
  have f2 : DataW.trod enc Try.prog w base spare held n 45 ((cs.drop 2).take (Try.prog.cellsOf 45)) = some y2 := hf 2 _ rfl
  rw [cn_inps] at f2
  obtain ⟨a0, r0, o0, m0⟩ := opens_strz Try.underlying9 _ _ f0
  obtain ⟨a1, r1, o1, m1⟩ := opensVs _ _ _ f1
  obtain ⟨a2, r2, o2, m2⟩ := opensIs _ _ _ f2
  refine ⟨⟨a0, a1, a2⟩, ?_, ?_, ?_⟩
  · have := rts_seg r0 (rts_seg r1 (rts_seg r2 (rts_end hlen)))
    simpa [Sav.cells, Sav.mass] using this
  · have := one_seg o0 (one_seg o1 (one_seg o2 (one_end hlen)))
    simpa using this
  · simp only [Sav.cells, Sav.mass, List.map_cons, List.map_nil, Rows.uptoBulk, Rows.uptoBulkAll] at m0 m1 m2 ⊢
    omega
end
theorem sum_mem {α : Type} (f : α → Nat) : ∀ {l : List α} {x : α}, x ∈ l → f x ≤ (l.map f).sum
  | a :: l, x, h => by
    rcases List.mem_cons.1 h with rfl | h
    · simp only [List.map_cons, List.sum_cons]; omega
    · have := sum_mem f h; simp only [List.map_cons, List.sum_cons]; omega
theorem V.mass_tiny {v : V} (h : v.mass ≤ 1048576) : v.tiny := by
  obtain ⟨h1, h2⟩ := V.mass_ok v h
  have h3 := V.bytes_len v h1 (by omega) (by omega)
  exact ⟨h1, by omega, by omega⟩
theorem V.mass_pos (v : V) : 1 ≤ v.mass := by
  obtain ⟨k, n, t, l⟩ := v
  have := far_pos k
  simp only [V.mass]; omega
theorem sum_pos {α : Type} (f : α → Nat) (hf : ∀ x, 1 ≤ f x) : ∀ l : List α, l.length ≤ (l.map f).sum
  | [] => by simp
  | a :: l => by have := sum_pos f hf l; have := hf a; simp only [List.map_cons, List.sum_cons, List.length_cons]; omega
theorem Sav.mass_ok (s : Sav) (h : s.mass ≤ 1048576) : s.Small ∧ s.state.length ≤ 1048576 := by
  simp only [Sav.mass] at h
  have h1 := sum_pos V.mass V.mass_pos s.state
  refine ⟨⟨fun v hv => V.mass_tiny (by have := sum_mem V.mass hv; omega), fun x hx => V.mass_tiny (by have := sum_mem Inp.mass hx; simp only [Inp.mass] at this; omega), by omega⟩, by omega⟩
end Go.Proofs.Ythgackidonocpaa
namespace Go.Proofs.Ythgackidonocpaa
open Go.ChangeShapes Go.WideShapes Go.ChangeAt Go.RowKit Go.Deep
instance : Inhabited Lt := ⟨Lt.zero⟩
def Lt.mass : Lt → Nat
  | .mk k fm tt n t v => far k + far fm + far tt + far n + t.size + v.mass
theorem Lt.mass_tiny {x : Lt} (h : x.mass ≤ 1048576) : x.tiny := by
  obtain ⟨k, fm, tt, n, t, v⟩ := x
  simp only [Lt.mass] at h
  exact Lt.tiny_of (far_in (by omega)) (far_in (by omega)) (far_in (by omega)) (by omega) (V.mass_tiny (by omega))
def Par.mass (p : Par) : Nat := far p.ref + (p.sav.mass + ((p.box.map Lt.mass).sum + (far p.ticks + ((p.wat.map far).sum + (p.lnk.map far).sum))))
section
variable {H : Type} {enc : TypeId × Value → H} {w : World} {base : Nat} {spare : Nat → Bool} {held : Bool}
theorem cn_let : Try.prog.cellsOf 38 = 9 := by kernel_rfl
theorem cn_lets : Try.prog.cellsOf 55 = 1 := by kernel_rfl
theorem cn_ints : Try.prog.cellsOf 56 = 1 := by kernel_rfl
theorem cn_par : Try.prog.cellsOf 58 = 8 := by kernel_rfl
theorem opensL (fuel : Nat) : Opens enc Try.prog w base spare held 38 Lt.ts Lt.mass fuel := by
  intro cs x h
  obtain ⟨ys, n, hn, rfl, hlen, hyl, hf⟩ := DataW.trod_struct Try.underlying38 h
  rw [cn_let] at hlen
  obtain ⟨y0, y1, y2, y3, y4, y5, rfl⟩ := listQ6 hyl
  have f0 : DataW.trod enc Try.prog w base spare held n 3 ((cs.drop 0).take (Try.prog.cellsOf 3)) = some y0 := hf 0 _ rfl
  rw [cn_int] at f0
  have f1 : DataW.trod enc Try.prog w base spare held n 3 ((cs.drop 1).take (Try.prog.cellsOf 3)) = some y1 := hf 1 _ rfl
  rw [cn_int] at f1
  have f2 : DataW.trod enc Try.prog w base spare held n 3 ((cs.drop 2).take (Try.prog.cellsOf 3)) = some y2 := hf 2 _ rfl
  rw [cn_int] at f2
  have f3 : DataW.trod enc Try.prog w base spare held n 3 ((cs.drop 3).take (Try.prog.cellsOf 3)) = some y3 := hf 3 _ rfl
  rw [cn_int] at f3
  have f4 : DataW.trod enc Try.prog w base spare held n 9 ((cs.drop 4).take (Try.prog.cellsOf 9)) = some y4 := hf 4 _ rfl
  rw [cn_str] at f4
  have f5 : DataW.trod enc Try.prog w base spare held n 24 ((cs.drop 5).take (Try.prog.cellsOf 24)) = some y5 := hf 5 _ rfl
  rw [cn_val] at f5
  obtain ⟨a0, r0, o0, m0⟩ := opens_far Try.underlying3 _ _ f0
  obtain ⟨a1, r1, o1, m1⟩ := opens_far Try.underlying3 _ _ f1
  obtain ⟨a2, r2, o2, m2⟩ := opens_far Try.underlying3 _ _ f2
  obtain ⟨a3, r3, o3, m3⟩ := opens_far Try.underlying3 _ _ f3
  obtain ⟨a4, r4, o4, m4⟩ := opens_strz Try.underlying9 _ _ f4
  obtain ⟨a5, r5, o5, m5⟩ := opensV _ _ _ f5
  refine ⟨.mk a0 a1 a2 a3 a4 a5, ?_, ?_, ?_⟩
  · have := rts_seg r0 (rts_seg r1 (rts_seg r2 (rts_seg r3 (rts_seg r4 (rts_seg r5 (rts_end hlen))))))
    simpa [Lt.ts, Lt.mass] using this
  · have := one_seg o0 (one_seg o1 (one_seg o2 (one_seg o3 (one_seg o4 (one_seg o5 (one_end hlen))))))
    simpa using this
  · simp only [Lt.ts, Lt.mass, List.map_cons, List.map_nil, Rows.uptoBulk, Rows.uptoBulkAll] at m0 m1 m2 m3 m4 m5 ⊢
    omega
theorem opensLs (fuel : Nat) : Opens enc Try.prog w base spare held 55 (fun l : List Lt => [letRow l]) (fun l => (l.map Lt.mass).sum + 1) fuel := by
  intro cs x h
  obtain ⟨l, h1, h2, h3⟩ := opens_slice Lt.ts Lt.mass 9 (by omega) Lt.ts_len Try.underlying55 cn_let (fun m _ => opensL m) cs x h
  exact ⟨l, by simpa [letRow] using h1, h2, h3⟩
theorem opensNs (fuel : Nat) : Opens enc Try.prog w base spare held 56 (fun l : List Int => [intRow l]) (fun l => (l.map far).sum + 1) fuel := by
  intro cs x h
  obtain ⟨l, h1, h2, h3⟩ := opens_slice intTs far 1 (by omega) (fun _ => rfl) Try.underlying56 cn_int (fun m _ => opens_far Try.underlying3) cs x h
  exact ⟨l, by simpa [intRow] using h1, h2, h3⟩
theorem opensPar (fuel : Nat) : Opens enc Try.prog w base spare held 58 Par.ts Par.mass fuel := by
  intro cs x h
  obtain ⟨ys, n, hn, rfl, hlen, hyl, hf⟩ := DataW.trod_struct Try.underlying58 h
  rw [cn_par] at hlen
  obtain ⟨y0, y1, y2, y3, y4, y5, rfl⟩ := listQ6 hyl
  have f0 : DataW.trod enc Try.prog w base spare held n 3 ((cs.drop 0).take (Try.prog.cellsOf 3)) = some y0 := hf 0 _ rfl
  rw [cn_int] at f0
  have f1 : DataW.trod enc Try.prog w base spare held n 47 ((cs.drop 1).take (Try.prog.cellsOf 47)) = some y1 := hf 1 _ rfl
  rw [cn_sav] at f1
  have f2 : DataW.trod enc Try.prog w base spare held n 55 ((cs.drop 4).take (Try.prog.cellsOf 55)) = some y2 := hf 2 _ rfl
  rw [cn_lets] at f2
  have f3 : DataW.trod enc Try.prog w base spare held n 3 ((cs.drop 5).take (Try.prog.cellsOf 3)) = some y3 := hf 3 _ rfl
  rw [cn_int] at f3
  have f4 : DataW.trod enc Try.prog w base spare held n 56 ((cs.drop 6).take (Try.prog.cellsOf 56)) = some y4 := hf 4 _ rfl
  rw [cn_ints] at f4
  have f5 : DataW.trod enc Try.prog w base spare held n 56 ((cs.drop 7).take (Try.prog.cellsOf 56)) = some y5 := hf 5 _ rfl
  rw [cn_ints] at f5
  obtain ⟨a0, r0, o0, m0⟩ := opens_far Try.underlying3 _ _ f0
  obtain ⟨a1, r1, o1, m1⟩ := opensSav _ _ _ f1
  obtain ⟨a2, r2, o2, m2⟩ := opensLs _ _ _ f2
  obtain ⟨a3, r3, o3, m3⟩ := opens_far Try.underlying3 _ _ f3
  obtain ⟨a4, r4, o4, m4⟩ := opensNs _ _ _ f4
  obtain ⟨a5, r5, o5, m5⟩ := opensNs _ _ _ f5
  refine ⟨⟨a0, a1, a2, a3, a4, a5⟩, ?_, ?_, ?_⟩
  · have := rts_seg r0 (rts_seg r1 (rts_seg r2 (rts_seg r3 (rts_seg r4 (rts_seg r5 (rts_end hlen))))))
    simpa [Par.ts, Par.mass, Sav.cells] using this
  · have := one_seg o0 (one_seg o1 (one_seg o2 (one_seg o3 (one_seg o4 (one_seg o5 (one_end hlen))))))
    simpa using this
  · simp only [Par.ts, Par.mass, Sav.cells, List.map_cons, List.map_nil, Rows.uptoBulk, Rows.uptoBulkAll] at m0 m1 m2 m3 m4 m5 ⊢
    omega
end
theorem Par.mass_ok (p : Par) (h : p.mass ≤ 1048576) : p.Small ∧ p.sav.state.length ≤ 1048576 := by
  simp only [Par.mass] at h
  obtain ⟨h1, h2⟩ := Sav.mass_ok p.sav (by omega)
  refine ⟨⟨h1, fun x hx => Lt.mass_tiny (by have := sum_mem Lt.mass hx; omega), far_in (by omega), far_in (by omega), fun n hn => far_in (by have := sum_mem far hn; omega), fun n hn => far_in (by have := sum_mem far hn; omega)⟩, h2⟩
end Go.Proofs.Ythgackidonocpaa
namespace Go.Proofs.Ythgackidonocpaa
open Go.ChangeShapes Go.WideShapes Go.ChangeAt Go.RowKit Go.Deep
instance : Inhabited Par := ⟨Par.zero⟩
instance : Inhabited Wy := ⟨⟨0, 0, []⟩⟩
def Wy.mass (w : Wy) : Nat := far w.frm + (far w.to + (w.lets.map Lt.mass).sum)
def Snp.mass (s : Snp) : Nat := far s.time + ((s.pars.map Par.mass).sum + (s.ways.map Wy.mass).sum)
section
variable {H : Type} {enc : TypeId × Value → H} {w : World} {base : Nat} {spare : Nat → Bool} {held : Bool}
theorem cn_pars : Try.prog.cellsOf 66 = 1 := by kernel_rfl
theorem cn_way : Try.prog.cellsOf 183 = 3 := by kernel_rfl
theorem cn_ways : Try.prog.cellsOf 67 = 1 := by kernel_rfl
theorem cn_snp : Try.prog.cellsOf 69 = 3 := by kernel_rfl
theorem opensPs (fuel : Nat) : Opens enc Try.prog w base spare held 66 (fun l : List Par => [parRow l]) (fun l => (l.map Par.mass).sum + 1) fuel := by
  intro cs x h
  obtain ⟨l, h1, h2, h3⟩ := opens_slice Par.ts Par.mass 8 (by omega) Par.ts_len Try.underlying66 cn_par (fun m _ => opensPar m) cs x h
  exact ⟨l, by simpa [parRow] using h1, h2, h3⟩
theorem opensWy (fuel : Nat) : Opens enc Try.prog w base spare held 183 Wy.ts Wy.mass fuel := by
  intro cs x h
  obtain ⟨ys, n, hn, rfl, hlen, hyl, hf⟩ := DataW.trod_struct Try.underlying183 h
  rw [cn_way] at hlen
  obtain ⟨y0, y1, y2, rfl⟩ := listQ3 hyl
  have f0 : DataW.trod enc Try.prog w base spare held n 3 ((cs.drop 0).take (Try.prog.cellsOf 3)) = some y0 := hf 0 _ rfl
  rw [cn_int] at f0
  have f1 : DataW.trod enc Try.prog w base spare held n 3 ((cs.drop 1).take (Try.prog.cellsOf 3)) = some y1 := hf 1 _ rfl
  rw [cn_int] at f1
  have f2 : DataW.trod enc Try.prog w base spare held n 55 ((cs.drop 2).take (Try.prog.cellsOf 55)) = some y2 := hf 2 _ rfl
  rw [cn_lets] at f2
  obtain ⟨a0, r0, o0, m0⟩ := opens_far Try.underlying3 _ _ f0
  obtain ⟨a1, r1, o1, m1⟩ := opens_far Try.underlying3 _ _ f1
  obtain ⟨a2, r2, o2, m2⟩ := opensLs _ _ _ f2
  refine ⟨⟨a0, a1, a2⟩, ?_, ?_, ?_⟩
  · have := rts_seg r0 (rts_seg r1 (rts_seg r2 (rts_end hlen)))
    simpa [Wy.ts, Wy.mass] using this
  · have := one_seg o0 (one_seg o1 (one_seg o2 (one_end hlen)))
    simpa using this
  · simp only [Wy.ts, Wy.mass, List.map_cons, List.map_nil, Rows.uptoBulk, Rows.uptoBulkAll] at m0 m1 m2 ⊢
    omega
theorem opensWs (fuel : Nat) : Opens enc Try.prog w base spare held 67 (fun l : List Wy => [wayRow l]) (fun l => (l.map Wy.mass).sum + 1) fuel := by
  intro cs x h
  obtain ⟨l, h1, h2, h3⟩ := opens_slice Wy.ts Wy.mass 3 (by omega) Wy.ts_len Try.underlying67 cn_way (fun m _ => opensWy m) cs x h
  exact ⟨l, by simpa [wayRow] using h1, h2, h3⟩
theorem opensSnp (fuel : Nat) : Opens enc Try.prog w base spare held 69 Snp.ts Snp.mass fuel := by
  intro cs x h
  obtain ⟨ys, n, hn, rfl, hlen, hyl, hf⟩ := DataW.trod_struct Try.underlying69 h
  rw [cn_snp] at hlen
  obtain ⟨y0, y1, y2, rfl⟩ := listQ3 hyl
  have f0 : DataW.trod enc Try.prog w base spare held n 3 ((cs.drop 0).take (Try.prog.cellsOf 3)) = some y0 := hf 0 _ rfl
  rw [cn_int] at f0
  have f1 : DataW.trod enc Try.prog w base spare held n 66 ((cs.drop 1).take (Try.prog.cellsOf 66)) = some y1 := hf 1 _ rfl
  rw [cn_pars] at f1
  have f2 : DataW.trod enc Try.prog w base spare held n 67 ((cs.drop 2).take (Try.prog.cellsOf 67)) = some y2 := hf 2 _ rfl
  rw [cn_ways] at f2
  obtain ⟨a0, r0, o0, m0⟩ := opens_far Try.underlying3 _ _ f0
  obtain ⟨a1, r1, o1, m1⟩ := opensPs _ _ _ f1
  obtain ⟨a2, r2, o2, m2⟩ := opensWs _ _ _ f2
  refine ⟨⟨a0, a1, a2⟩, ?_, ?_, ?_⟩
  · have := rts_seg r0 (rts_seg r1 (rts_seg r2 (rts_end hlen)))
    simpa [Snp.ts, Snp.mass] using this
  · have := one_seg o0 (one_seg o1 (one_seg o2 (one_end hlen)))
    simpa using this
  · simp only [Snp.ts, Snp.mass, List.map_cons, List.map_nil, Rows.uptoBulk, Rows.uptoBulkAll] at m0 m1 m2 ⊢
    omega
end
theorem Snp.mass_ok (s : Snp) (h : s.mass ≤ 1048576) : s.Small := by
  simp only [Snp.mass] at h
  refine ⟨fun p hp => Par.mass_ok p (by have := sum_mem Par.mass hp; omega), fun w hw l hl => Lt.mass_tiny ?_, far_in (by omega)⟩
  have h1 := sum_mem Wy.mass hw
  have h2 := sum_mem Lt.mass hl
  simp only [Wy.mass] at h1
  omega
end Go.Proofs.Ythgackidonocpaa
