/-
  Texts of this proof, part 13: Vmi Vna Open Law OpenT OpenY OpenK OpenN.
-/
import Derived.Test.YtnkafjkcjpajgaaQLockAnew12
import Derived.Deep.Slices
import Derived.JoinedCond
import Derived.Lib.MinMax
import Derived.OpenShut
import Derived.ProofKit
import Derived.Test.YtnkafjkcjpajgaaRows
namespace Go.Proofs.Ytnkafjkcjpajgaa
open Go.RowKit
theorem AF.re {P : Program} {f : FuncId} {l l' : List T} {R : T → Prop} (h : AF P f l R) (hr : ∀ M vs, RTs M l' vs → RTs M l vs) : AF P f l' R :=
  ⟨h.1, fun M w vs hg hm hv => h.2 M w vs hg hm (hr M vs hv)⟩
theorem rt_nilrow {M : Mm} {sz : Nat} (h0 : 0 < sz) {u : Value} (h : RT M (.lit (.slice none 0 0)) u) : RT M (.row 0 sz []) u := by
  simp only [RT] at h ⊢
  subst h
  exact ⟨none, 0, [], rfl, Nat.le_refl _, Nat.zero_le _, h0, by simp, fun h => absurd h (by omega), by simp only [RTs]⟩
def nA : ByteArray := ⟨#[97]⟩
def l0 : List Md := [⟨nA, 1, []⟩, ⟨nA, 2, []⟩]
def root0 : List Us := [⟨nA, 1, 9⟩]
theorem nA_ok : nameOk nA.data.toList = true := nameOk_yes (by simp [nA]) (by simp [nA]) (fun j h _ => by
  have : j = 0 := by simp [nA] at h; omega
  subst this; rfl)
theorem check0 : checkE l0 = 0 := by
  have hm : ∀ v : Int, v = 1 ∨ v = 2 → modE ⟨nA, v, []⟩ = 0 := fun v hv => by
    unfold modE
    rw [if_pos nA_ok, if_neg (by simp only; omega)]
    rfl
  unfold checkE
  rw [if_neg (by simp [l0])]
  show modsE none [⟨nA, 1, []⟩, ⟨nA, 2, []⟩] = 0
  rw [modsE, if_pos (hm 1 (.inl rfl)), if_pos (show ordE none ⟨nA, 1, []⟩ = 0 from rfl), modsE, if_pos (hm 2 (.inr rfl))]
  have ho : ordE (some ⟨nA, 1, []⟩) ⟨nA, 2, []⟩ = 0 := by
    show (if mordB ⟨nA, 1, []⟩ ⟨nA, 2, []⟩ then (0 : Int) else 21) = 0
    rw [if_pos]
    simp [mordB]
  rw [if_pos ho]
  rfl
theorem wants0 : wantsE root0 = 0 := by
  have hu : useE ⟨nA, 1, 9⟩ = 0 := by
    unfold useE
    rw [if_pos nA_ok, if_neg (by simp only; omega)]
  unfold wantsE
  rw [if_neg (by simp [root0])]
  show usesE [⟨nA, 1, 9⟩] = 0
  rw [usesE, if_pos hu]
  rfl
theorem compl0 : compl l0 [] root0 3 [] = some [(nA, ⟨nA, 2, []⟩)] := by kernel_rfl
theorem best0 : bestV l0 root0 [] = ([⟨nA, 2⟩], 0) := by
  unfold bestV
  rw [check0, wants0]
  show (match compl l0 [] root0 3 [] with | none => (([] : List Pk), (22 : Int)) | some R => (outL R, 0)) = _
  rw [compl0]
  show (outL [(nA, (⟨nA, 2, []⟩ : Md))], (0 : Int)) = _
  have h5 : sortB [nA] = [nA] := by
    unfold sortB
    rw [List.map_cons, List.map_nil, List.mergeSort_singleton]
    rfl
  unfold outL
  show (outOf _ (sortB [nA]), (0 : Int)) = _
  rw [h5]
  rfl
set_option maxRecDepth 100000 in
set_option maxHeartbeats 4000000 in
theorem picked_af : AF Try.prog 28 [] (· = .lit (.bool true)) := by
  have hb := best_af l0 root0 [] (by decide) (by decide)
  rw [best0] at hb
  have hb2 : AF Try.prog 25 [.row 2 3 [.lit (.string nA), .lit (.int .i64 1), .lit (.slice none 0 0), .lit (.string nA), .lit (.int .i64 2), .lit (.slice none 0 0)], Us.row root0, Pk.row []] (· = .tup [Pk.row [⟨nA, 2⟩], .lit (.int .i64 0)]) := hb.re fun M vs hv => by
    simp only [RTs] at hv ⊢
    obtain ⟨x, r, rfl, h1, h2⟩ := hv
    refine ⟨x, r, rfl, ?_, h2⟩
    have hrow : Md.row l0 = .row 2 3 [.lit (.string nA), .lit (.int .i64 1), .row 0 3 [], .lit (.string nA), .lit (.int .i64 2), .row 0 3 []] := rfl
    rw [hrow]
    simp only [RT] at h1
    obtain ⟨A, c, xs, g1, g2, g3, g4, g5, g6, g7⟩ := h1
    show RT M (.row 2 3 _) x
    rw [RT]
    refine ⟨A, c, xs, g1, g2, g3, g4, g5, g6, ?_⟩
    simp only [RTs] at g7 ⊢
    obtain ⟨y1, r1, rfl, k1, y2, r2, rfl, k2, y3, r3, rfl, k3, y4, r4, rfl, k4, y5, r5, rfl, k5, y6, r6, rfl, k6, rfl⟩ := g7
    exact ⟨y1, _, rfl, k1, y2, _, rfl, k2, y3, _, rfl, rt_nilrow (by omega) k3, y4, _, rfl, k4, y5, _, rfl, k5, y6, _, rfl, rt_nilrow (by omega) k6, rfl⟩
  have he := eqPks_af [⟨nA, 2⟩]
  clear hb
  refine af_enter tok Try.func28 Try.ntmps28 Try.results28 rfl (by kernel_rfl) rfl rfl fun F hX => ?_
  repeat (first | refine gG ?_)
  refine zCall (hb2) ?_
  rintro _ rfl
  repeat (first | refine gG ?_)
  refine zCall (he) ?_
  rintro _ rfl
  repeat (first | refine gG ?_)
  first | refine zR ?_ | refine zQ ?_
  rfl
end Go.Proofs.Ytnkafjkcjpajgaa
namespace Go.Proofs.Ytnkafjkcjpajgaa
open Go.RowKit
def notK (p : Pk → Bool) (l : List Pk) : List Pk := l.filter fun a => !p a
theorem notK_len (p : Pk → Bool) (l : List Pk) : (notK p l).length ≤ l.length := List.length_filter_le _ _
theorem delK_idx (p : Pk → Bool) : ∀ l : List Pk, (idxI p l = -1 ∧ notK p l = l) ∨ ∃ i : Nat, idxI p l = (i : Int) ∧ i < l.length ∧ notK p (l.take (i + 1)) = l.take i
  | [] => .inl ⟨rfl, rfl⟩
  | a :: l => by
    unfold idxI notK
    rw [List.findIdx?_cons]
    cases h : p a
    · rcases delK_idx p l with ⟨h1, h2⟩ | ⟨i, h1, h2, h3⟩
      · left
        unfold idxI at h1
        unfold notK at h2
        refine ⟨?_, by simp [h, h2]⟩
        cases hf : l.findIdx? p with
        | none => simp [hf]
        | some i => rw [hf] at h1; simp at h1 <;> omega
      · right
        unfold idxI at h1
        unfold notK at h3
        refine ⟨i + 1, ?_, by simp; omega, by simp [h, h3]⟩
        cases hf : l.findIdx? p with
        | none => rw [hf] at h1; simp at h1 <;> omega
        | some k => rw [hf] at h1; simp at h1; simp [hf]; omega
    · right
      exact ⟨0, by simp, by simp, by simp [h]⟩
theorem dropK_cons {l : List Pk} {k : Nat} {a : Pk} (h : l[k]? = some a) : l.drop k = a :: l.drop (k + 1) := by
  obtain ⟨h1, rfl⟩ := List.getElem?_eq_some_iff.1 h
  exact List.drop_eq_getElem_cons h1
/-- the cells while what is kept is moved to the front -/
def DelK (p : Pk → Bool) (l : List Pk) (j : Nat) (C : List T) : Prop := C.length = l.length * 2 ∧ C.take ((notK p (l.take j)).length * 2) = (notK p (l.take j)).flatMap Pk.ts ∧ C.drop (j * 2) = (l.drop j).flatMap Pk.ts
theorem delK_start {p : Pk → Bool} {l : List Pk} {i : Nat} (hi : i < l.length) (h : notK p (l.take (i + 1)) = l.take i) : DelK p l (i + 1) (l.flatMap Pk.ts) := by
  refine ⟨len_flat Pk.ts_len l, ?_, drop_flat Pk.ts_len (i + 1) l⟩
  rw [h]
  have h1 : (l.take i).length = i := by rw [List.length_take]; omega
  rw [h1]
  exact take_flat Pk.ts_len i l
theorem delK_at {p : Pk → Bool} {l : List Pk} {j : Nat} {C : List T} (h : DelK p l j C) {a : Pk} (ha : l[j]? = some a) : (C.drop (j * 2)).take 2 = a.ts := by
  rw [h.2.2, dropK_cons ha, List.flatMap_cons]
  have := Pk.ts_len a
  rw [List.take_append_of_le_length (by omega), List.take_of_length_le (by omega)]
theorem notK_skip {p : Pk → Bool} {l : List Pk} {j : Nat} {a : Pk} (ha : l[j]? = some a) (hp : p a = true) : notK p (l.take (j + 1)) = notK p (l.take j) := by
  unfold notK
  rw [List.take_add_one, ha, List.filter_append]
  simp [hp]
theorem notK_snoc {p : Pk → Bool} {l : List Pk} {j : Nat} {a : Pk} (ha : l[j]? = some a) (hp : p a = false) : notK p (l.take (j + 1)) = notK p (l.take j) ++ [a] := by
  unfold notK
  rw [List.take_add_one, ha, List.filter_append]
  simp [hp]
theorem dropK_next {p : Pk → Bool} {l : List Pk} {j : Nat} {C : List T} (h : DelK p l j C) {a : Pk} (ha : l[j]? = some a) : C.drop ((j + 1) * 2) = (l.drop (j + 1)).flatMap Pk.ts := by
  have h2 := congrArg (List.drop 2) h.2.2
  have h3 : List.drop 2 a.ts = [] := List.drop_of_length_le (by rw [Pk.ts_len]; exact Nat.le_refl _)
  rw [List.drop_drop, dropK_cons ha, List.flatMap_cons, List.drop_append, h3, Pk.ts_len, List.nil_append] at h2
  rw [show (j + 1) * 2 = j * 2 + 2 by omega]
  simpa using h2
theorem delK_skip {p : Pk → Bool} {l : List Pk} {j : Nat} {C : List T} (h : DelK p l j C) {a : Pk} (ha : l[j]? = some a) (hp : p a = true) : DelK p l (j + 1) C :=
  ⟨h.1, by rw [notK_skip ha hp]; exact h.2.1, dropK_next h ha⟩
theorem delK_keep {p : Pk → Bool} {l : List Pk} {j : Nat} {C : List T} (h : DelK p l j C) {a : Pk} (ha : l[j]? = some a) (hp : p a = false) : DelK p l (j + 1) (spl C ((notK p (l.take j)).length * 2) a.ts) ∧ (notK p (l.take (j + 1))).length = (notK p (l.take j)).length + 1 := by
  have hj : j < l.length := (List.getElem?_eq_some_iff.1 ha).1
  have hn := notK_snoc ha hp
  have hle : (notK p (l.take j)).length ≤ j := Nat.le_trans (notK_len p _) (by rw [List.length_take]; omega)
  have hl1 : (notK p (l.take (j + 1))).length = (notK p (l.take j)).length + 1 := by rw [hn]; simp
  have hC := h.1
  have hts := Pk.ts_len a
  have hb : (notK p (l.take j)).length * 2 + a.ts.length ≤ C.length := by rw [hts, hC]; omega
  refine ⟨⟨?_, ?_, ?_⟩, hl1⟩
  · rw [spl_len]; exact hC
  · rw [hl1, spl_eq _ _ _ hb, hn, List.flatMap_append, ← h.2.1]
    have h1 : (C.take ((notK p (l.take j)).length * 2) ++ a.ts).length = ((notK p (l.take j)).length + 1) * 2 := by rw [List.length_append, List.length_take, hts]; omega
    rw [List.take_append_of_le_length (by omega), List.take_of_length_le (by omega)]
    simp
  · rw [spl_eq _ _ _ hb, ← dropK_next h ha]
    have h1 : (C.take ((notK p (l.take j)).length * 2) ++ a.ts).length = ((notK p (l.take j)).length + 1) * 2 := by rw [List.length_append, List.length_take, hts]; omega
    rw [List.drop_append, h1, List.drop_of_length_le (by omega), List.nil_append, List.drop_drop, hts]
    congr 1
    omega
set_option maxRecDepth 100000 in
set_option maxHeartbeats 1000000 in
theorem idxPkF_af (p : Pk → Bool) (f : FuncId) (cap : List T) (l : List Pk) (hf : ∀ a ∈ l, AF Try.prog f (.agg (Pk.ts a) :: cap) (· = .lit (.bool (p a)))) :
    AF Try.prog 100 [.row l.length 2 (l.flatMap Pk.ts), .fn (.func f) cap] (· = .lit (.int .i64 (idxI p l))) := by
  refine af_enter tok Try.func100 Try.ntmps100 Try.results100 rfl (by kernel_rfl) rfl rfl fun F hX => ?_
  repeat (first | refine gG ?_ | refine zN1 (fun hlen => ?_) | refine zN2 (fun hlen => ?_))
  refine x_loop [4, 5, 8, 9, 10, 11, 12, 13, 14, 15, 16, 17, 18] (fun k : Nat => [(8, .c (.lit (.int .i64 k)))]) (fun _ => []) (fun k => k ≤ l.length ∧ idxAt p l k) (fun k => l.length - k) 0 ⟨Nat.zero_le _, idxAt_zero p l⟩ ⟨rfl, trivial⟩ rfl fun k hk => ?_
  repeat (first | refine gG ?_ | refine zN1 (fun hlen => ?_) | refine zN2 (fun hlen => ?_))
  refine x_cond rfl (fun h => ?_) (fun h => ?_)
  · have hk' : k < l.length := by simpa using h
    obtain ⟨a, ha⟩ := nth hk'
    have hs := hf a (List.mem_of_getElem? ha)
    repeat (first | refine gG ?_ | refine zN1 (fun hlen => ?_) | refine zN2 (fun hlen => ?_))
    refine lo_idx tok k rfl rfl rfl hk' rfl rfl rfl rfl ?_
    repeat (first | refine gG ?_ | refine zN1 (fun hlen => ?_) | refine zN2 (fun hlen => ?_))
    refine lo_load_pin tok rfl rfl rfl (flat_at Pk.ts 2 Pk.ts_len ha) (Pk.ts_len a) ?_
    repeat (first | refine gG ?_ | refine zN1 (fun hlen => ?_) | refine zN2 (fun hlen => ?_))
    refine v_callc hs rfl (by first | exact rzs_cons rz_c rzs_self | (repeat (first | exact rzs_nil | apply rzs_cons | exact rz_c | exact rz_nil rfl | apply rz_agg | exact rz_own rfl | apply rz_fn | exact rz_ptr rfl | apply rz_tup))) ?_
    rintro _ rfl
    cases hp : p a
    · repeat (first | refine gG ?_ | refine zN1 (fun hlen => ?_) | refine zN2 (fun hlen => ?_))
      exact ⟨k + 1, ⟨hk', idxAt_no hk.2 ha hp⟩, by omega, x_wkd 0 ⟨rfl, trivial⟩ rfl (by repeat (first | exact ag_refl | refine ag_upd rfl ?_ | refine ag_at rfl rfl ?_))⟩
    · repeat (first | refine gG ?_ | refine zN1 (fun hlen => ?_) | refine zN2 (fun hlen => ?_))
      first | refine zR ?_ | refine zQ ?_
      rw [idxAt_yes hk.2 ha hp]; rfl
  · have hk' : k = l.length := by have : ¬ k < l.length := by simpa using h
                                  omega
    subst hk'
    repeat (first | refine gG ?_ | refine zN1 (fun hlen => ?_) | refine zN2 (fun hlen => ?_))
    first | refine zR ?_ | refine zQ ?_
    rw [idxAt_end hk.2]; rfl
set_option maxRecDepth 100000 in
set_option maxHeartbeats 2000000 in
theorem delPk_ag (p : Pk → Bool) (f : FuncId) (t : T) (l : List Pk) (v : Value) (hl : l.length ≤ 1048576) (hf : ∀ a ∈ l, AF Try.prog f [.agg (Pk.ts a), t] (· = .lit (.bool (p a)))) :
    AG Try.prog 64 [.own 0 v, .fn (.func f) [.c t]] [.row v 46 2 l.length (l.flatMap Pk.ts)] (fun r hs => ∃ v', r = .own 0 v' ∧ hs = [.row v' 46 2 (notK p l).length ((notK p l).flatMap Pk.ts)]) := by
  have hix := idxPkF_af p f [t] l hf
  have hd := delK_idx p l
  generalize idxI p l = ix at *
  refine ag_enter 1 tok Try.func64 Try.ntmps64 Try.results64 rfl (by kernel_rfl) rfl fun F => ?_
  repeat (first | refine gG ?_ | refine zN1 (fun hlen => ?_) | refine zN2 (fun hlen => ?_) | refine zAl (fun _ => ?_))
  refine zPeek hix ?_
  rintro _ rfl
  refine ⟨rfl, ?_⟩
  clear hix
  rcases hd with ⟨rfl, h2⟩ | ⟨i, rfl, hi, h2⟩
  · repeat (first | refine gG ?_ | refine zN1 (fun hlen => ?_) | refine zN2 (fun hlen => ?_) | refine zAl (fun _ => ?_))
    refine zG ?_
    exact ⟨_, rfl, by rw [h2]⟩
  have d0 : decide (((i : Nat) : Int) = -1) = false := decide_eq_false (by omega)
  have hn0 : (notK p (l.take (i + 1))).length = i := by rw [h2, List.length_take]; omega
  have hst := delK_start hi h2
  clear h2
  repeat (first | refine gG ?_ | refine zN1 (fun hlen => ?_) | refine zN2 (fun hlen => ?_) | refine zAl (fun _ => ?_))
  refine x_loop [5, 6, 7, 16, 17, 18, 19, 20, 21, 22, 23, 24, 25, 26, 27, 28, 29, 30, 31, 32, 33, 34, 35] (fun y : Nat × List T => [(6, .c (.lit (.int .i64 (y.1 : Nat)))), (5, .c (.lit (.int .i64 ((notK p (l.take y.1)).length : Nat))))]) (fun y => [.row v 46 2 l.length y.2]) (fun y => y.1 ≤ l.length ∧ DelK p l y.1 y.2) (fun y => l.length - y.1) (i + 1, l.flatMap Pk.ts) ⟨by omega, hst⟩ ⟨rfl, by rw [hn0]; rfl, trivial⟩ rfl ?_
  clear hst hn0 d0 hi
  rintro ⟨j, C⟩ ⟨hj, hC⟩
  dsimp only at hj hC ⊢
  repeat (first | refine gG ?_ | refine zN1 (fun hlen => ?_) | refine zN2 (fun hlen => ?_) | refine zAl (fun _ => ?_))
  refine x_cond rfl (fun h => ?_) (fun h => ?_)
  · have hj' : j < l.length := by simpa using h
    obtain ⟨a, ha⟩ := nth hj'
    have hs := hf a (List.mem_of_getElem? ha)
    have hat := delK_at hC ha
    have hle : (notK p (l.take j)).length ≤ j := Nat.le_trans (notK_len p _) (by rw [List.length_take]; omega)
    have hk := fun hp => delK_keep hC ha (p := p) hp
    have hsk := fun hp => delK_skip hC ha (p := p) hp
    have hsl := fun hp => notK_skip ha (p := p) hp
    have hCl := hC.1
    clear h ha hC hf
    obtain ⟨an, av⟩ := a
    repeat (first | refine gG ?_ | refine zN1 (fun hlen => ?_) | refine zN2 (fun hlen => ?_) | refine zAl (fun _ => ?_))
    refine zIxo j hj' ?_
    repeat (first | refine gG ?_ | refine zN1 (fun hlen => ?_) | refine zN2 (fun hlen => ?_) | refine zAl (fun _ => ?_))
    refine zElo hat (Pk.ts_len _) ?_
    repeat (first | refine gG ?_ | refine zN1 (fun hlen => ?_) | refine zN2 (fun hlen => ?_) | refine zAl (fun _ => ?_))
    refine zCall hs ?_
    rintro _ rfl
    clear hs
    cases hp : p ⟨an, av⟩
    · obtain ⟨h1, h2⟩ := hk hp
      clear hk hsk hp hat hsl
      repeat (first | refine gG ?_ | refine zN1 (fun hlen => ?_) | refine zN2 (fun hlen => ?_) | refine zAl (fun _ => ?_))
      refine zIxo (notK p (l.take j)).length (show (notK p (l.take j)).length < l.length by omega) ?_
      repeat (first | refine gG ?_ | refine zN1 (fun hlen => ?_) | refine zN2 (fun hlen => ?_) | refine zAl (fun _ => ?_))
      refine zSe (us := [.lit (.string an), .lit (.int .i64 av)]) rfl (show (notK p (l.take j)).length * 2 + 2 ≤ C.length by rw [hCl]; omega) ?_
      repeat (first | refine gG ?_ | refine zN1 (fun hlen => ?_) | refine zN2 (fun hlen => ?_) | refine zAl (fun _ => ?_))
      exact ⟨(j + 1, _), ⟨hj', h1⟩, by simp only; omega, x_wkd 1 ⟨rfl, by rw [h2]; rfl, trivial⟩ rfl (by repeat (first | exact ag_refl | refine ag_upd rfl ?_ | refine ag_at rfl rfl ?_))⟩
    · have h1 := hsk hp
      have h2 : (notK p (l.take (j + 1))).length = (notK p (l.take j)).length := by rw [hsl hp]
      clear hk hsk hat hsl
      repeat (first | refine gG ?_ | refine zN1 (fun hlen => ?_) | refine zN2 (fun hlen => ?_) | refine zAl (fun _ => ?_))
      exact ⟨(j + 1, C), ⟨hj', h1⟩, by simp only; omega, x_wkd 1 ⟨rfl, by rw [h2]; rfl, trivial⟩ rfl (by repeat (first | exact ag_refl | refine ag_upd rfl ?_ | refine ag_at rfl rfl ?_))⟩
  · have hj' : j = l.length := by
      have : ¬ j < l.length := by simpa using h
      omega
    subst hj'
    clear h hf
    obtain ⟨hCl, hCt, _⟩ := hC
    rw [List.take_length] at hCt ⊢
    have hnl := notK_len p l
    repeat (first | refine gG ?_ | refine zN1 (fun hlen => ?_) | refine zN2 (fun hlen => ?_) | refine zAl (fun _ => ?_))
    refine zQs (n := l.length) (notK p l).length hnl ?_
    repeat (first | refine gG ?_ | refine zN1 (fun hlen => ?_) | refine zN2 (fun hlen => ?_) | refine zAl (fun _ => ?_))
    refine zClr 0 (notK p l).length hnl (fun us hus => ?_)
    have htk := take_clear C us ((notK p l).length * 2) (by rw [hus, hCl]; omega)
    repeat (first | refine gG ?_ | refine zN1 (fun hlen => ?_) | refine zN2 (fun hlen => ?_) | refine zAl (fun _ => ?_))
    refine zQh (n := l.length) (notK p l).length hnl (fun _ => ?_)
    rw [htk, hCt]
    repeat (first | refine gG ?_ | refine zN1 (fun hlen => ?_) | refine zN2 (fun hlen => ?_) | refine zAl (fun _ => ?_))
    refine zG ?_
    exact ⟨_, rfl, rfl⟩
set_option maxRecDepth 100000 in
set_option maxHeartbeats 1000000 in
theorem clonePk_ag (l : List Pk) (hl : l.length ≤ 1048576) : AG Try.prog 65 [.c (Pk.row l)] [] (fun r hs => ∃ v, r = .own 0 v ∧ hs = [.row v 46 2 l.length (l.flatMap Pk.ts)]) := by
  refine ag_enter 1 tok Try.func65 Try.ntmps65 Try.results65 rfl (by kernel_rfl) rfl fun F => ?_
  repeat (first | refine gG ?_ | refine zAp (fun _ => ?_))
  refine zNs (fun b hb => ?_)
  cases b
  · repeat (first | refine gX ?_ | refine zAp (fun _ => ?_))
    refine zBo (fun _ => ?_)
    repeat (first | refine gG ?_ | refine zAp (fun _ => ?_))
    refine zG ?_
    exact ⟨_, rfl, by simp only [List.nil_append, Nat.zero_add]⟩
  · have h0 := hb rfl
    have : l = [] := List.eq_nil_of_length_eq_zero h0
    subst this
    repeat (first | refine gO ?_ | refine ac_seq ?_ | refine ac_block ?_ | refine ac_region ?_ | refine ac_skip ?_ | refine zT ?_)
    refine x_own 2 46 2 rfl rfl rfl rfl rfl ?_
    repeat (first | refine gG ?_ | refine zAp (fun _ => ?_))
    refine zG ?_
    exact ⟨_, rfl, rfl⟩
set_option maxRecDepth 100000 in
set_option maxHeartbeats 1000000 in
theorem idxStr_af (l : List ByteArray) (s : ByteArray) : AF Try.prog 101 [strRow l, .lit (.string s)] (· = .lit (.int .i64 (idxI (fun a => decide (s = a)) l))) := by
  refine af_enter tok Try.func101 Try.ntmps101 Try.results101 rfl (by kernel_rfl) rfl rfl fun F hX => ?_
  repeat (first | refine gG ?_ | refine zN1 (fun hlen => ?_) | refine zN2 (fun hlen => ?_))
  refine x_loop [4, 5, 8, 9, 10, 11, 12, 13, 14, 15, 16, 17, 18] (fun k : Nat => [(8, .c (.lit (.int .i64 (k : Nat))))]) (fun _ => []) (fun k => k ≤ l.length ∧ idxAt (fun a => decide (s = a)) l k) (fun k => l.length - k) 0 ⟨Nat.zero_le _, idxAt_zero _ l⟩ ⟨rfl, trivial⟩ rfl fun k hk => ?_
  repeat (first | refine gG ?_ | refine zN1 (fun hlen => ?_) | refine zN2 (fun hlen => ?_))
  refine x_cond rfl (fun h => ?_) (fun h => ?_)
  · have hk' : k < l.length := by simpa using h
    obtain ⟨a, ha⟩ := nth hk'
    have hat : (l.flatMap strTs)[k * 1]? = some (.lit (.string a)) := by rw [Nat.mul_one]; exact str_at ha
    have hno := fun hp => idxAt_no hk.2 ha hp
    have hyes := fun hp => idxAt_yes hk.2 ha hp
    clear h ha hk
    cases d1 : decide (s = a)
    · replace hno := hno d1
      repeat (first | refine gG ?_ | refine zN1 (fun hlen => ?_) | refine zN2 (fun hlen => ?_))
      refine zIx k hk' ?_
      repeat (first | refine gG ?_ | refine zN1 (fun hlen => ?_) | refine zN2 (fun hlen => ?_))
      refine zEl1 hat ?_
      repeat (first | refine gG ?_ | refine zN1 (fun hlen => ?_) | refine zN2 (fun hlen => ?_))
      exact ⟨k + 1, ⟨hk', hno⟩, by omega, x_wkd 0 ⟨rfl, trivial⟩ rfl (by repeat (first | exact ag_refl | refine ag_upd rfl ?_ | refine ag_at rfl rfl ?_))⟩
    · replace hyes := hyes d1
      repeat (first | refine gG ?_ | refine zN1 (fun hlen => ?_) | refine zN2 (fun hlen => ?_))
      refine zIx k hk' ?_
      repeat (first | refine gG ?_ | refine zN1 (fun hlen => ?_) | refine zN2 (fun hlen => ?_))
      refine zEl1 hat ?_
      repeat (first | refine gG ?_ | refine zN1 (fun hlen => ?_) | refine zN2 (fun hlen => ?_))
      first | refine zR ?_ | refine zQ ?_
      rw [hyes]; rfl
  · have hk' : k = l.length := by have : ¬ k < l.length := by simpa using h
                                  omega
    subst hk'
    repeat (first | refine gG ?_ | refine zN1 (fun hlen => ?_) | refine zN2 (fun hlen => ?_))
    first | refine zR ?_ | refine zQ ?_
    rw [idxAt_end hk.2]; rfl
set_option maxRecDepth 100000 in
set_option maxHeartbeats 1000000 in
theorem hasStr_af (l : List ByteArray) (s : ByteArray) : AF Try.prog 67 [strRow l, .lit (.string s)] (· = .lit (.bool (l.any fun a => decide (s = a)))) := by
  have hc := idxStr_af l s
  refine af_enter tok Try.func67 Try.ntmps67 Try.results67 rfl (by kernel_rfl) rfl rfl fun F hX => ?_
  repeat (first | refine gG ?_)
  refine zCall (hc) ?_
  rintro _ rfl
  repeat (first | refine gG ?_)
  first | refine zR ?_ | refine zQ ?_
  rw [← idxI_any]; rfl
def freeB (fr : List ByteArray) (p : Pk) : Bool := fr.any fun a => decide (p.name = a)
set_option maxRecDepth 100000 in
set_option maxHeartbeats 1000000 in
theorem anew1_af (fr : List ByteArray) (p : Pk) : AF Try.prog 66 [.agg (Pk.ts p), .pin [strRow fr] 0] (· = .lit (.bool (freeB fr p))) := by
  have hc := hasStr_af fr p.name
  unfold freeB
  generalize (fr.any fun a => decide (p.name = a)) = z at *
  obtain ⟨pn, pv⟩ := p
  dsimp only at hc
  refine af_enter tok Try.func66 Try.ntmps66 Try.results66 rfl (by kernel_rfl) rfl rfl fun F hX => ?_
  repeat (first | refine gG ?_ | refine zBf ?_)
  refine zCall (hc) ?_
  rintro _ rfl
  repeat (first | refine gG ?_ | refine zBf ?_)
  first | refine zR ?_ | refine zQ ?_
  rfl
noncomputable def anewV (l : List Md) (root : List Us) (was : List Pk) (fr : List ByteArray) : List Pk × Int := bif decide (lockF was = 0) then bestV l root (notK (freeB fr) was) else ([], lockF was)
set_option maxRecDepth 100000 in
set_option maxHeartbeats 2000000 in
theorem anew_af (l : List Md) (root : List Us) (was : List Pk) (fr : List ByteArray) (hls : Md.sizes l ≤ 1048576) (hrs : Us.sizes root ≤ 1048576) (hws : ∀ p ∈ was, p.name.size ≤ 1048576) : AF Try.prog 29 [Md.row l, Us.row root, Pk.row was, strRow fr] (· = .tup [Pk.row (anewV l root was fr).1, .lit (.int .i64 (anewV l root was fr).2)]) := by
  have h1 := lockCheck_af was hws
  have hlk := @lockF_ok was
  unfold anewV
  generalize lockF was = e at *
  cases d1 : decide (e = 0)
  · clear hlk
    refine af_enter tok Try.func29 Try.ntmps29 Try.results29 rfl (by kernel_rfl) rfl rfl fun F hX => ?_
    repeat (first | refine gG ?_ | refine zBf ?_)
    refine zCall (h1) ?_
    rintro _ rfl
    repeat (first | refine gG ?_ | refine zBf ?_)
    first | refine zR (ts := [Pk.row [], .lit (.int .i64 e)]) ?_ | refine zQ (ts := [Pk.row [], .lit (.int .i64 e)]) ?_
    rfl
  have hwl := (hlk (of_decide_eq_true d1)).len
  rw [cond_true]
  have hcl := clonePk_ag was (by omega)
  have hdl := fun v => delPk_ag (freeB fr) 66 (.pin [strRow fr] 0) was v (by omega) (fun a _ => anew1_af fr a)
  have hb := best_af l root (notK (freeB fr) was) hls hrs
  generalize notK (freeB fr) was = K at *
  generalize bestV l root K = r at *
  obtain ⟨ro, re⟩ := r
  clear hlk
  refine af_enter tok Try.func29 Try.ntmps29 Try.results29 rfl (by kernel_rfl) rfl rfl fun F hX => ?_
  repeat (first | refine gG ?_ | refine zBf ?_)
  refine zCall (h1) ?_
  rintro _ rfl
  repeat (first | refine gG ?_ | refine zBf ?_)
  refine zCallG [] hcl ?_
  rintro _ _ ⟨v, rfl, rfl⟩
  refine ⟨.own 0 v, _, re_own, rfl, rfl, ?_⟩
  repeat (first | refine gG ?_ | refine zBf ?_)
  refine zCallG [0] (hdl v) ?_
  rintro _ _ ⟨v', rfl, rfl⟩
  refine ⟨.own 0 v', _, re_own, rfl, rfl, ?_⟩
  clear hcl hdl
  repeat (first | refine gO ?_ | refine zBx (fun _ => ?_))
  refine x_fz 11 rfl rfl rfl rfl ?_
  repeat (first | refine gG ?_ | refine zBf ?_)
  refine zCall (hb) ?_
  rintro _ rfl
  repeat (first | refine gG ?_ | refine zBf ?_)
  first | refine zR (ts := [Pk.row ro, .lit (.int .i64 re)]) ?_ | refine zQ (ts := [Pk.row ro, .lit (.int .i64 re)]) ?_
  rfl
theorem keepTo_snoc {fr : List ByteArray} {j : Nat} {a : ByteArray} (h : fr[j]? = some a) (p : Pk) : (!freeB (fr.take (j + 1)) p) = (!freeB (fr.take j) p && !decide (a = p.name)) := by
  obtain ⟨h1, rfl⟩ := List.getElem?_eq_some_iff.1 h
  unfold freeB
  rw [List.take_succ_eq_append_getElem h1, List.any_append]
  rw [show decide (fr[j] = p.name) = decide (p.name = fr[j]) from decide_eq_decide.2 eq_comm]
  simp
set_option maxRecDepth 100000 in
set_option maxHeartbeats 2000000 in
theorem lockAnew_af (l : List Md) (root : List Us) (was : List Pk) (fr : List ByteArray) (hls : Md.sizes l ≤ 1048576) (hrs : Us.sizes root ≤ 1048576) (hws : ∀ p ∈ was, p.name.size ≤ 1048576) : AF Try.prog 30 [Md.row l, Us.row root, Pk.row was, strRow fr] (· = .tup [Pk.row (anewV l root was fr).1, .lit (.int .i64 (anewV l root was fr).2)]) := by
  have h1 := lockFault_af was hws
  have hlk := @lockF_ok was
  unfold anewV
  generalize lockF was = e at *
  cases d1 : decide (e = 0)
  · clear hlk
    refine af_enter tok Try.func30 Try.ntmps30 Try.results30 rfl (by kernel_rfl) rfl rfl fun F hX => ?_
    repeat (first | refine gG ?_ | refine zN1 (fun hlen => ?_) | refine zN2 (fun hlen => ?_) | refine zAl (fun _ => ?_) | refine zAp (fun _ => ?_))
    refine zCall (h1) ?_
    rintro _ rfl
    repeat (first | refine gG ?_ | refine zN1 (fun hlen => ?_) | refine zN2 (fun hlen => ?_) | refine zAl (fun _ => ?_) | refine zAp (fun _ => ?_))
    first | refine zR (ts := [Pk.row [], .lit (.int .i64 e)]) ?_ | refine zQ (ts := [Pk.row [], .lit (.int .i64 e)]) ?_
    rfl
  have hwl := (hlk (of_decide_eq_true d1)).len
  rw [cond_true]
  have hb := refBest_af l root (notK (freeB fr) was) hls hrs
  generalize bestV l root (notK (freeB fr) was) = r at *
  obtain ⟨ro, re⟩ := r
  clear hlk
  refine af_enter tok Try.func30 Try.ntmps30 Try.results30 rfl (by kernel_rfl) rfl rfl fun F hX => ?_
  repeat (first | refine gG ?_ | refine zN1 (fun hlen => ?_) | refine zN2 (fun hlen => ?_) | refine zAl (fun _ => ?_) | refine zAp (fun _ => ?_))
  refine zCall (h1) ?_
  rintro _ rfl
  clear h1
  repeat (first | refine gG ?_ | refine zN1 (fun hlen => ?_) | refine zN2 (fun hlen => ?_) | refine zAl (fun _ => ?_) | refine zAp (fun _ => ?_))
  refine x_own 11 46 2 rfl rfl rfl rfl rfl ?_
  refine x_loop [11, 13, 14, 16, 24, 25, 26, 27, 28, 29, 30, 31, 32, 33, 34, 35, 36, 37, 38, 39, 40, 41, 42, 43, 44, 45, 46, 47] (fun y : Nat × Value => [(24, .c (.lit (.int .i64 (y.1 : Nat)))), (11, .own 0 y.2)]) (fun y => [.row y.2 46 2 (notK (freeB fr) (was.take y.1)).length ((notK (freeB fr) (was.take y.1)).flatMap Pk.ts)])
    (fun y => y.1 ≤ was.length) (fun y => was.length - y.1) (0, .slice none 0 0) (Nat.zero_le _) ⟨rfl, rfl, trivial⟩ rfl ?_
  rintro ⟨k, v⟩ hk
  dsimp only at hk ⊢
  repeat (first | refine gG ?_ | refine zN1 (fun hlen => ?_) | refine zN2 (fun hlen => ?_) | refine zAl (fun _ => ?_) | refine zAp (fun _ => ?_))
  refine x_cond rfl (fun h => ?_) (fun h => ?_)
  · have hk' : k < was.length := by simpa using h
    obtain ⟨p, hp⟩ := nth hk'
    have hat := Pk.at hp
    have hskip := fun h => notK_skip (p := freeB fr) hp h
    have hsnoc := fun h => notK_snoc (p := freeB fr) hp h
    have hle : (notK (freeB fr) (was.take k)).length ≤ 30 := by
      have := notK_len (freeB fr) (was.take k)
      rw [List.length_take] at this
      omega
    have hks := fun j a (h : fr[j]? = some a) => keepTo_snoc h p
    have hone := pks_snoc (notK (freeB fr) (was.take k)) p
    clear h hp hb
    generalize notK (freeB fr) (was.take k) = X at *
    generalize hX : notK (freeB fr) (was.take (k + 1)) = X' at *
    obtain ⟨pn, pv⟩ := p
    dsimp only at hks
    repeat (first | refine gG ?_ | refine zN1 (fun hlen => ?_) | refine zN2 (fun hlen => ?_) | refine zAl (fun _ => ?_) | refine zAp (fun _ => ?_))
    refine zIx (k) (hk') ?_
    repeat (first | refine gG ?_ | refine zN1 (fun hlen => ?_) | refine zN2 (fun hlen => ?_) | refine zAl (fun _ => ?_) | refine zAp (fun _ => ?_))
    refine zEl (hat) (Pk.ts_len _) ?_
    repeat (first | refine gG ?_ | refine zN1 (fun hlen => ?_) | refine zN2 (fun hlen => ?_) | refine zAl (fun _ => ?_) | refine zAp (fun _ => ?_))
    rename_i b13
    refine x_loop [14, 16, 30, 31, 32, 33, 34, 35, 36, 37, 38, 39, 40, 41] (fun j : Nat => [(30, .c (.lit (.int .i64 (j : Nat)))), (14, .c (.lit (.bool (!freeB (fr.take j) ⟨pn, pv⟩))))]) (fun _ => [.row v 46 2 X.length (X.flatMap Pk.ts), .box b13 46 [.c (.lit (.string pn)), .c (.lit (.int .i64 pv))]])
      (fun j => j ≤ fr.length) (fun j => fr.length - j) 0 (Nat.zero_le _) ⟨rfl, rfl, trivial⟩ rfl ?_
    rintro j hj
    repeat (first | refine gG ?_ | refine zN1 (fun hlen => ?_) | refine zN2 (fun hlen => ?_) | refine zAl (fun _ => ?_) | refine zAp (fun _ => ?_))
    refine x_cond rfl (fun h => ?_) (fun h => ?_)
    · have hj' : j < fr.length := by simpa using h
      obtain ⟨a, ha⟩ := nth hj'
      have g1 : (fr.flatMap strTs)[j * 1]? = some (.lit (.string a)) := by rw [Nat.mul_one]; exact str_at ha
      have hks := hks j a ha
      clear h ha hskip hsnoc hone
      generalize (!freeB (fr.take j) ⟨pn, pv⟩) = c at *
      generalize hC : (!freeB (fr.take (j + 1)) ⟨pn, pv⟩) = c' at *
      cases c
      · replace hks : c' = false := hks
        repeat (first | refine gG ?_ | refine zN1 (fun hlen => ?_) | refine zN2 (fun hlen => ?_) | refine zAl (fun _ => ?_) | refine zAp (fun _ => ?_))
        refine zIx j hj' ?_
        repeat (first | refine gG ?_ | refine zN1 (fun hlen => ?_) | refine zN2 (fun hlen => ?_) | refine zAl (fun _ => ?_) | refine zAp (fun _ => ?_))
        refine zEl1 g1 ?_
        repeat (first | refine gG ?_ | refine zN1 (fun hlen => ?_) | refine zN2 (fun hlen => ?_) | refine zAl (fun _ => ?_) | refine zAp (fun _ => ?_))
        exact ⟨j + 1, hj', by omega, x_wkd 2 ⟨rfl, by rw [hC, hks]; rfl, trivial⟩ rfl (by repeat (first | exact ag_refl | refine ag_upd rfl ?_ | refine ag_at rfl rfl ?_))⟩
      · replace hks : c' = !decide (a = pn) := hks
        repeat (first | refine gG ?_ | refine zN1 (fun hlen => ?_) | refine zN2 (fun hlen => ?_) | refine zAl (fun _ => ?_) | refine zAp (fun _ => ?_))
        refine zIx j hj' ?_
        repeat (first | refine gG ?_ | refine zN1 (fun hlen => ?_) | refine zN2 (fun hlen => ?_) | refine zAl (fun _ => ?_) | refine zAp (fun _ => ?_))
        refine zEl1 g1 ?_
        repeat (first | refine gG ?_ | refine zN1 (fun hlen => ?_) | refine zN2 (fun hlen => ?_) | refine zAl (fun _ => ?_) | refine zAp (fun _ => ?_))
        exact ⟨j + 1, hj', by omega, x_wkd 2 ⟨rfl, by rw [hC, hks]; rfl, trivial⟩ rfl (by repeat (first | exact ag_refl | refine ag_upd rfl ?_ | refine ag_at rfl rfl ?_))⟩
    · have hj' : j = fr.length := by
        have : ¬ j < fr.length := by simpa using h
        omega
      subst hj'
      rw [List.take_length]
      clear h hj hks
      generalize hfb : freeB fr ⟨pn, pv⟩ = fb at *
      cases fb
      · replace hsnoc := hsnoc rfl
        rw [← hsnoc] at hone
        clear hskip
        rw [show (!false) = true from rfl]
        repeat (first | refine gG ?_ | refine zN1 (fun hlen => ?_) | refine zN2 (fun hlen => ?_) | refine zAl (fun _ => ?_) | refine zAp (fun _ => ?_))
        exact ⟨(k + 1, _), hk', by simp only; omega, x_wkd 1 ⟨rfl, rfl, trivial⟩ (by dsimp only; rw [hX, hone.1, hone.2]; rfl) (by repeat (first | exact ag_refl | refine ag_upd rfl ?_ | refine ag_at rfl rfl ?_))⟩
      · replace hskip := hskip rfl
        clear hsnoc
        rw [show (!true) = false from rfl]
        repeat (first | refine gG ?_ | refine zN1 (fun hlen => ?_) | refine zN2 (fun hlen => ?_) | refine zAl (fun _ => ?_) | refine zAp (fun _ => ?_))
        exact ⟨(k + 1, v), hk', by simp only; omega, x_wkd 1 ⟨rfl, rfl, trivial⟩ (by dsimp only; rw [hX, hskip]; rfl) (by repeat (first | exact ag_refl | refine ag_upd rfl ?_ | refine ag_at rfl rfl ?_))⟩
  · have hk' : k = was.length := by
      have : ¬ k < was.length := by simpa using h
      omega
    subst hk'
    rw [List.take_length]
    clear h
    refine x_fz 11 rfl rfl rfl rfl ?_
    repeat (first | refine gG ?_ | refine zN1 (fun hlen => ?_) | refine zN2 (fun hlen => ?_) | refine zAl (fun _ => ?_) | refine zAp (fun _ => ?_))
    refine zCall (hb) ?_
    rintro _ rfl
    repeat (first | refine gG ?_ | refine zN1 (fun hlen => ?_) | refine zN2 (fun hlen => ?_) | refine zAl (fun _ => ?_) | refine zAp (fun _ => ?_))
    first | refine zR (ts := [Pk.row ro, .lit (.int .i64 re)]) ?_ | refine zQ (ts := [Pk.row ro, .lit (.int .i64 re)]) ?_
    rfl
set_option maxRecDepth 100000 in
set_option maxHeartbeats 4000000 in
theorem lockAnew_law (l : List Md) (root : List Us) (was : List Pk) (fr : List ByteArray) (hls : Md.sizes l ≤ 1048576) (hrs : Us.sizes root ≤ 1048576) (hws : Pk.sizes was ≤ 1048576) : AF Try.prog 7 [Md.row l, Us.row root, Pk.row was, strRow fr] (· = .lit (.bool true)) := by
  have hsz : ∀ p ∈ was, p.name.size ≤ 1048576 := fun p hp => by
    have := Pk.size_mem hp
    obtain ⟨nm, v⟩ := p
    simp only [Pk.size] at this
    simp only
    omega
  have h1 := anew_af l root was fr hls hrs hsz
  have h2 := lockAnew_af l root was fr hls hrs hsz
  have h3 := eqPks_af (anewV l root was fr).1
  have h4 := picked_af
  generalize anewV l root was fr = r at *
  obtain ⟨ro, re⟩ := r
  dsimp only at h1 h2 h3
  have q1 : decide (re = re) = true := decide_eq_true rfl
  clear hsz
  refine af_enter tok Try.func7 Try.ntmps7 Try.results7 rfl (by kernel_rfl) rfl rfl fun F hX => ?_
  repeat (first | refine gG ?_)
  refine zCall (h1) ?_
  rintro _ rfl
  repeat (first | refine gG ?_)
  refine zCall (h2) ?_
  rintro _ rfl
  repeat (first | refine gG ?_)
  refine zCall (h3) ?_
  rintro _ rfl
  repeat (first | refine gG ?_)
  refine zCall (h4) ?_
  rintro _ rfl
  repeat (first | refine gG ?_)
  first | refine zR ?_ | refine zQ ?_
  rfl
end Go.Proofs.Ytnkafjkcjpajgaa
namespace Go.Proofs.Ytnkafjkcjpajgaa
open Go.ChangeShapes Go.WideShapes Go.ChangeAt Go.RowKit Go.Deep
section
variable {H : Type} {enc : TypeId × Value → H} {P : Program} {w : World} {base : Nat} {spare : Nat → Bool} {held : Bool}
theorem bulk_one (d : DataW H) : 1 ≤ Rows.uptoBulk d := by
  cases d with
  | lit l => cases l <;> simp [Rows.uptoBulk]
  | _ => simp [Rows.uptoBulk]
end
end Go.Proofs.Ytnkafjkcjpajgaa
namespace Go.Proofs.Ytnkafjkcjpajgaa
open Go.ChangeShapes Go.WideShapes Go.ChangeAt Go.RowKit
theorem own : ownKnob Try.prog.godebug = none := by kernel_rfl
theorem laidOut : laidOutB Try.prog = true := by kernel_rfl
section
variable {H : Type} {enc : TypeId × Value → H}
theorem trodAll_below {P : Program} (hl : laidOutB P = true) {W W' : World} (hb : Below W.heap.size W W') (ts : List TypeId) : ∀ (vs : List Value) (ds : List (DataW H)) (ps : List MemPlace),
    (ts.all fun t => P.readableRec t && decide (t < P.types.size)) = true → DataW.TrodAll enc P W 0 (fun _ => true) true ts vs ds ps → (∀ x ∈ ps, x.block < W.heap.size) →
    DataW.TrodAll enc P W' 0 (fun b => decide (b < W.heap.size)) true ts vs ds ps := by
  induction ts with
  | nil =>
    intro vs ds ps _ h _
    obtain ⟨rfl, rfl, rfl⟩ := trodAll_nil h
    rfl
  | cons t ts ih =>
    intro vs ds ps hr h hlt
    obtain ⟨v, vs', d, ds', p, q, rfl, rfl, rfl, h0, h1⟩ := trodAll_cons h
    simp only [List.all_cons, Bool.and_eq_true, decide_eq_true_eq] at hr
    refine ⟨p, q, Below.trod hl hr.1.1 hr.1.2 h0 hb fun x hx => hlt x (List.mem_append_left _ hx), ?_, rfl⟩
    exact ih vs' ds' q hr.2 h1 fun x hx => hlt x (List.mem_append_right _ hx)
theorem law_post {f : Func} {s : ChangeSpec} {W W' : World} {args : Array Value} {ds gs : List (DataW H)} {before : List MemPlace}
    (hW : DataW.Whole enc Try.prog f.params.toList s.vars false W args.toList ds gs before) (hv : s.vars = []) (hrt : f.resultTypes = #[4])
    (hr : (f.params.toList.all fun t => Try.prog.readableRec t && decide (t < Try.prog.types.size)) = true)
    (hres : (s.fn H (ds ++ gs)).results = [.lit (.bool true)]) (hargs : (s.fn H (ds ++ gs)).args = ds) (hvars : (s.fn H (ds ++ gs)).vars = []) (hb : Below W.heap.size W W') :
    s.post enc Try.prog f false true false false W args (.bool true) W' := by
  have hlt : ∀ p ∈ before, p.block < W.heap.size := fun p hp => hW.lt p hp
  have hW' := hW
  obtain ⟨p, q, hA, hV, rfl, _, _⟩ := hW'
  rw [hv] at hV
  obtain ⟨rfl, rfl⟩ := trodVars_none hV
  rw [List.append_nil] at hlt
  refine ⟨ds, [], _, [], p, [], hW, ?_, ?_, ?_, hb.frame _ |> World.keptBut_mono (fun x hx => ⟨hx, ?_⟩), fun h => by cases h⟩
  · rw [hrt, hres]
    exact trodAll_mk1 (shut_bool Try.underlying4 true)
  · rw [hargs]
    exact trodAll_below laidOut hb _ _ _ _ hr hA hlt
  · rw [hvars, hv]
    rfl
  · rw [List.append_nil] at hx
    exact .inr (.inl hx)
end
end Go.Proofs.Ytnkafjkcjpajgaa
namespace Go.Proofs.Ytnkafjkcjpajgaa
open Go.ChangeShapes Go.WideShapes Go.ChangeAt Go.RowKit Go.Deep
/-- all memory of a world -/
def memOf (w : World) : Mm := frz (fun _ => none) 0 w
theorem memOf_ok (w : World) : MemOk (memOf w) w := frz_ok (fun p v h => by cases h) 0
theorem memOf_at {w : World} {p : Addr} {v : Value} (h : w.cell? p = some v) (h1 : v.oneCell' = true) : memOf w p = some v := frz_new rfl (Nat.zero_le _) h h1
section
variable {H : Type} {enc : TypeId × Value → H} {P : Program} {w : World} {base : Nat} {spare : Nat → Bool} {held : Bool}
def Opens (enc : TypeId × Value → H) (P : Program) (w : World) (base : Nat) (spare : Nat → Bool) (held : Bool) (t : TypeId) {α : Type} (f : α → List T) (μ : α → Nat) (fuel : Nat) : Prop :=
  ∀ (cs : List Value) (x : DataW H × List MemPlace), DataW.trod enc P w base spare held fuel t cs = some x → ∃ a, RTs (memOf w) (f a) cs ∧ OneAll cs ∧ μ a ≤ Rows.uptoBulk x.1
theorem sum_le {α : Type} (μ : α → Nat) : ∀ (l : List α) (ds : List (DataW H)), l.length = ds.length → (∀ (i : Nat) (a : α) (d : DataW H), l[i]? = some a → ds[i]? = some d → μ a ≤ Rows.uptoBulk d) → (l.map μ).sum ≤ Rows.uptoBulkAll ds
  | [], [], _, _ => by simp [Rows.uptoBulkAll]
  | a :: l, d :: ds, hl, h => by
    have h1 := h 0 a d rfl rfl
    have h2 := sum_le μ l ds (by simpa using hl) fun i a d ha hd => h (i + 1) a d (by simpa using ha) (by simpa using hd)
    simp only [List.map_cons, List.sum_cons, Rows.uptoBulkAll]
    omega
  | [], _ :: _, hl, _ => by simp at hl
  | _ :: _, [], hl, _ => by simp at hl
theorem snoc_ind {α : Type} {p : List α → Prop} (h0 : p []) (h1 : ∀ l x, p l → p (l ++ [x])) (l : List α) : p l := by
  have : ∀ n (l : List α), l.length = n → p l := by
    intro n
    induction n with
    | zero => intro l hl; rw [List.eq_nil_of_length_eq_zero hl]; exact h0
    | succ n ih =>
      intro l hl
      have hne : l ≠ [] := fun e => by rw [e] at hl; cases hl
      rw [← List.dropLast_concat_getLast hne]
      exact h1 _ _ (ih _ (by simp [hl]))
  exact this l.length l rfl
theorem rows_of {α : Type} (f : α → List T) (sz : Nat) (hf : ∀ a, (f a).length = sz) {a : Addr} : ∀ (l : List α) (C : Nat → List Value), (∀ (i : Nat) (x : α), l[i]? = some x → RTs (memOf w) (f x) (C i) ∧ OneAll (C i) ∧ ∀ j u, (C i)[j]? = some u → w.cell? (a.add (i * sz + j)) = some u) →
    ∃ xs : List Value, xs.length = l.length * sz ∧ At (memOf w) a xs ∧ RTs (memOf w) (l.flatMap f) xs := by
  intro l
  induction l using snoc_ind with
  | h0 => exact fun _ _ => ⟨[], by simp, fun j x h => by simp at h, by simp [RTs]⟩
  | h1 l x ih =>
    intro C h
    obtain ⟨xs, h1, h2, h3⟩ := ih C fun i y hy => h i y (by rw [List.getElem?_append_left (List.getElem?_eq_some_iff.1 hy).1]; exact hy)
    obtain ⟨g1, g2, g3⟩ := h l.length x (by simp)
    have hcl := g1.len
    rw [hf] at hcl
    refine ⟨xs ++ C l.length, by simp [h1, hcl, Nat.add_mul], fun j u hu => ?_, ?_⟩
    · rw [List.getElem?_append] at hu
      split at hu
      · exact h2 j u hu
      · have := g3 _ u hu
        rw [show l.length * sz + (j - xs.length) = j by omega] at this
        exact memOf_at this (g2 u (List.mem_of_getElem? hu))
    · rw [List.flatMap_append]
      refine h3.app ?_
      simpa using g1
theorem opens_slice {α : Type} [Inhabited α] {t e : TypeId} (f : α → List T) (μ : α → Nat) (sz : Nat) (hsz : 0 < sz) (hf : ∀ a, (f a).length = sz) {fuel : Nat} (ht : P.underlying t = some (.slice e)) (hC : P.cellsOf e = sz)
    (hel : ∀ n, n < fuel → Opens enc P w base spare held e f μ n) : Opens enc P w base spare held t (fun l : List α => [.row l.length sz (l.flatMap f)]) (fun l => (l.map μ).sum + 1) fuel := by
  intro cs x h
  rcases DataW.trod_slice ht h with ⟨rfl, rfl⟩ | ⟨a, len, cap, elems, rest, n, hn, rfl, rfl, hb, hl, hm, hlen, hi, _, _⟩
  · refine ⟨[], ?_, fun u hu => by simp at hu; subst hu; rfl, by simp [Rows.uptoBulk]⟩
    simp only [RTs]
    exact ⟨_, _, rfl, rt_nil hsz (by simp only [RT]), rfl⟩
  · rw [hC] at hi
    have hv : ∀ i, i < len → ∃ p : α × List Value, (p.2.length = sz ∧ ∀ j u, p.2[j]? = some u → w.cell? (a.add (i * sz + j)) = some u) ∧ RTs (memOf w) (f p.1) p.2 ∧ OneAll p.2 ∧ ∀ y, elems[i]? = some y → μ p.1 ≤ Rows.uptoBulk y.1 := by
      intro i hil
      have hk := hi i hil
      rw [List.getElem?_eq_getElem (by omega)] at hk
      obtain ⟨cs', h1, h2⟩ := Option.bind_eq_some_iff.1 hk
      obtain ⟨el, h3, h4, h5⟩ := hel n (by omega) _ _ h2
      obtain ⟨_, hlen', hcell⟩ := World.cells?_some h1
      refine ⟨(el, cs'), ⟨hlen', fun j u hu => ?_⟩, h3, h4, fun y hy => ?_⟩
      · have hj : j < sz := by rw [← hlen']; exact (List.getElem?_eq_some_iff.1 hu).1
        rw [← hu, ← hcell j hj, add_add']
      · rw [List.getElem?_eq_getElem (by omega)] at hy
        injection hy with hy
        rw [← hy]; exact h5
    obtain ⟨G, hG⟩ := choose_lt (α := α × List Value) hv
    obtain ⟨xs, g1, g2, g3⟩ := rows_of (w := w) (a := a) f sz hf ((List.range len).map fun i => (G i).1) (fun i => (G i).2) (fun i x hx => by
      have hil : i < len := by have := (List.getElem?_eq_some_iff.1 hx).1; simpa using this
      simp [hil] at hx
      obtain ⟨k1, k2, k3, _⟩ := hG i hil
      rw [← hx]
      exact ⟨k2, k3, k1.2⟩)
    refine ⟨(List.range len).map fun i => (G i).1, ?_, fun u hu => by simp at hu; subst hu; rfl, ?_⟩
    · simp only [RTs]
      refine ⟨_, _, rfl, ?_, rfl⟩
      simp only [RT]
      exact ⟨some a, cap, xs, by simp, by simpa using hl, by simp; omega, hsz, g1, fun _ => ⟨a, rfl, g2⟩, g3⟩
    · have := sum_le μ ((List.range len).map fun i => (G i).1) (elems.map (·.1)) (by simp [hlen]) (fun i y d hy hd => by
        have hil : i < len := by have := (List.getElem?_eq_some_iff.1 hy).1; simpa using this
        simp [hil] at hy
        rw [List.getElem?_map] at hd
        obtain ⟨z, hz, rfl⟩ := Option.map_eq_some_iff.1 hd
        rw [← hy]
        exact (hG i hil).2.2.2 z hz)
      simp only [Rows.uptoBulk]
      omega
theorem opens_int {t : TypeId} {k : IntKind} {fuel : Nat} (ht : P.underlying t = some (.int k)) : Opens enc P w base spare held t (fun i : Int => [.lit (.int k i)]) (fun _ => 1) fuel := by
  intro cs x h
  obtain ⟨i, rfl, rfl, _⟩ := DataW.trod_int ht h
  exact ⟨i, by simp [RTs, RT], fun u hu => by simp at hu; subst hu; rfl, bulk_one _⟩
end
/-- from a walk to the call: every law that takes trees and tells true -/
theorem law_call {P : Program} {f : FuncId} {ts : List T} {vs : List Value} {W : World} (h : AF P f ts (· = .lit (.bool true))) (hv : RTs (memOf W) ts vs) (hG : Glob W := by first | assumption | (intro x h; simp [globTab] at h)) : Calls P f vs.toArray W fun e W' => e = .returned (.bool true) ∧ Below W.heap.size W W' :=
  (h.2 (memOf W) W vs hG (memOf_ok W) hv).mono fun e w' ⟨v, r, M', he, hr, _, _, hrt, hb⟩ => by
    subst hr
    simp only [RT] at hrt
    rw [he, hrt]
    exact ⟨rfl, hb⟩
end Go.Proofs.Ytnkafjkcjpajgaa
namespace Go.Proofs.Ytnkafjkcjpajgaa
open Go.ChangeShapes Go.WideShapes Go.ChangeAt Go.RowKit Go.Deep
theorem listN2 {α : Type} {l : List α} (h : l.length = 2) : ∃ a b, l = [a, b] := match l, h with | [a, b], _ => ⟨a, b, rfl⟩
theorem listN3 {α : Type} {l : List α} (h : l.length = 3) : ∃ a b c, l = [a, b, c] := match l, h with | [a, b, c], _ => ⟨a, b, c, rfl⟩
theorem rts_seg {M : Mm} {ts us : List T} {cs : List Value} {o c : Nat} (h : RTs M ts ((cs.drop o).take c)) (h' : RTs M us (cs.drop (o + c))) : RTs M (ts ++ us) (cs.drop o) := by
  have := h.app h'
  rwa [← List.drop_drop, List.take_append_drop] at this
theorem rts_end {M : Mm} {cs : List Value} {o : Nat} (h : cs.length = o) : RTs M [] (cs.drop o) := by rw [← h, List.drop_length]; simp [RTs]
theorem one_seg {cs : List Value} {o c : Nat} (h : OneAll ((cs.drop o).take c)) (h' : OneAll (cs.drop (o + c))) : OneAll (cs.drop o) := by
  have := h.app h'
  rwa [← List.drop_drop, List.take_append_drop] at this
theorem one_end {cs : List Value} {o : Nat} (h : cs.length = o) : OneAll (cs.drop o) := by rw [← h, List.drop_length]; intro x hx; simp at hx
section
variable {H : Type} {enc : TypeId × Value → H} {P : Program} {w : World} {base : Nat} {spare : Nat → Bool} {held : Bool}
theorem opens_strz {t : TypeId} {fuel : Nat} (ht : P.underlying t = some .string) : Opens enc P w base spare held t (fun s : ByteArray => [.lit (.string s)]) (fun s => s.size + 1) fuel := by
  intro cs x h
  obtain ⟨i, rfl, rfl, _⟩ := DataW.trod_string ht h
  exact ⟨i, by simp [RTs, RT], fun u hu => by simp at hu; subst hu; rfl, by simp [Rows.uptoBulk]⟩
end
end Go.Proofs.Ytnkafjkcjpajgaa
namespace Go.Proofs.Ytnkafjkcjpajgaa
open Go.ChangeShapes Go.WideShapes Go.ChangeAt Go.RowKit Go.Deep
section
variable {H : Type} {enc : TypeId × Value → H} {w : World} {base : Nat} {spare : Nat → Bool} {held : Bool}
theorem cn_Us : Try.prog.cellsOf 118 = 3 := by kernel_rfl
theorem opensUs (fuel : Nat) : Opens enc Try.prog w base spare held 118 Us.ts Us.size fuel := by
  intro cs x h
  obtain ⟨ys, n, hn, rfl, hlen, hyl, hf⟩ := DataW.trod_struct Try.underlying118 h
  rw [cn_Us] at hlen
  obtain ⟨y0, y1, y2, rfl⟩ := listN3 hyl
  have f0 : DataW.trod enc Try.prog w base spare held n 9 ((cs.drop 0).take (Try.prog.cellsOf 9)) = some y0 := hf 0 _ rfl
  rw [show Try.prog.cellsOf 9 = 1 by kernel_rfl] at f0
  have f1 : DataW.trod enc Try.prog w base spare held n 3 ((cs.drop 1).take (Try.prog.cellsOf 3)) = some y1 := hf 1 _ rfl
  rw [show Try.prog.cellsOf 3 = 1 by kernel_rfl] at f1
  have f2 : DataW.trod enc Try.prog w base spare held n 3 ((cs.drop 2).take (Try.prog.cellsOf 3)) = some y2 := hf 2 _ rfl
  rw [show Try.prog.cellsOf 3 = 1 by kernel_rfl] at f2
  obtain ⟨a0, r0, o0, m0⟩ := opens_strz Try.underlying9 _ _ f0
  obtain ⟨a1, r1, o1, m1⟩ := opens_int Try.underlying3 _ _ f1
  obtain ⟨a2, r2, o2, m2⟩ := opens_int Try.underlying3 _ _ f2
  refine ⟨⟨a0, a1, a2⟩, ?_, ?_, ?_⟩
  · have := rts_seg r0 (rts_seg r1 (rts_seg r2 (rts_end hlen)))
    simpa [Us.ts] using this
  · have := one_seg o0 (one_seg o1 (one_seg o2 (one_end hlen)))
    simpa using this
  · simp only [Us.size, List.map_cons, List.map_nil, Rows.uptoBulk, Rows.uptoBulkAll] at m0 m1 m2 ⊢
    omega
theorem cn_Md : Try.prog.cellsOf 113 = 3 := by kernel_rfl
theorem opensMd (fuel : Nat) : Opens enc Try.prog w base spare held 113 Md.ts Md.size fuel := by
  intro cs x h
  obtain ⟨ys, n, hn, rfl, hlen, hyl, hf⟩ := DataW.trod_struct Try.underlying113 h
  rw [cn_Md] at hlen
  obtain ⟨y0, y1, y2, rfl⟩ := listN3 hyl
  have f0 : DataW.trod enc Try.prog w base spare held n 9 ((cs.drop 0).take (Try.prog.cellsOf 9)) = some y0 := hf 0 _ rfl
  rw [show Try.prog.cellsOf 9 = 1 by kernel_rfl] at f0
  have f1 : DataW.trod enc Try.prog w base spare held n 3 ((cs.drop 1).take (Try.prog.cellsOf 3)) = some y1 := hf 1 _ rfl
  rw [show Try.prog.cellsOf 3 = 1 by kernel_rfl] at f1
  have f2 : DataW.trod enc Try.prog w base spare held n 52 ((cs.drop 2).take (Try.prog.cellsOf 52)) = some y2 := hf 2 _ rfl
  rw [show Try.prog.cellsOf 52 = 1 by kernel_rfl] at f2
  obtain ⟨a0, r0, o0, m0⟩ := opens_strz Try.underlying9 _ _ f0
  obtain ⟨a1, r1, o1, m1⟩ := opens_int Try.underlying3 _ _ f1
  obtain ⟨a2, r2, o2, m2⟩ := opens_slice Us.ts Us.size 3 (by omega) Us.ts_len Try.underlying52 cn_Us (fun m _ => opensUs m) _ _ f2
  refine ⟨⟨a0, a1, a2⟩, ?_, ?_, ?_⟩
  · have := rts_seg r0 (rts_seg r1 (rts_seg r2 (rts_end hlen)))
    simpa [Md.ts, Us.row] using this
  · have := one_seg o0 (one_seg o1 (one_seg o2 (one_end hlen)))
    simpa using this
  · simp only [Md.size, Us.sizes, List.map_cons, List.map_nil, Rows.uptoBulk, Rows.uptoBulkAll] at m0 m1 m2 ⊢
    omega
theorem cn_Pk : Try.prog.cellsOf 46 = 2 := by kernel_rfl
theorem opensPk (fuel : Nat) : Opens enc Try.prog w base spare held 46 Pk.ts Pk.size fuel := by
  intro cs x h
  obtain ⟨ys, n, hn, rfl, hlen, hyl, hf⟩ := DataW.trod_struct Try.underlying46 h
  rw [cn_Pk] at hlen
  obtain ⟨y0, y1, rfl⟩ := listN2 hyl
  have f0 : DataW.trod enc Try.prog w base spare held n 9 ((cs.drop 0).take (Try.prog.cellsOf 9)) = some y0 := hf 0 _ rfl
  rw [show Try.prog.cellsOf 9 = 1 by kernel_rfl] at f0
  have f1 : DataW.trod enc Try.prog w base spare held n 3 ((cs.drop 1).take (Try.prog.cellsOf 3)) = some y1 := hf 1 _ rfl
  rw [show Try.prog.cellsOf 3 = 1 by kernel_rfl] at f1
  obtain ⟨a0, r0, o0, m0⟩ := opens_strz Try.underlying9 _ _ f0
  obtain ⟨a1, r1, o1, m1⟩ := opens_int Try.underlying3 _ _ f1
  refine ⟨⟨a0, a1⟩, ?_, ?_, ?_⟩
  · have := rts_seg r0 (rts_seg r1 (rts_end hlen))
    simpa [Pk.ts] using this
  · have := one_seg o0 (one_seg o1 (one_end hlen))
    simpa using this
  · simp only [Pk.size, List.map_cons, List.map_nil, Rows.uptoBulk, Rows.uptoBulkAll] at m0 m1 ⊢
    omega
theorem opensUsl (fuel : Nat) : Opens enc Try.prog w base spare held 52 (fun l : List Us => [Us.row l]) (fun l => Us.sizes l + 1) fuel :=
  opens_slice Us.ts Us.size 3 (by omega) Us.ts_len Try.underlying52 cn_Us (fun m _ => opensUs m)
theorem opensMdl (fuel : Nat) : Opens enc Try.prog w base spare held 51 (fun l : List Md => [Md.row l]) (fun l => Md.sizes l + 1) fuel :=
  opens_slice Md.ts Md.size 3 (by omega) Md.ts_len Try.underlying51 cn_Md (fun m _ => opensMd m)
theorem opensPkl (fuel : Nat) : Opens enc Try.prog w base spare held 41 (fun l : List Pk => [Pk.row l]) (fun l => Pk.sizes l + 1) fuel :=
  opens_slice Pk.ts Pk.size 2 (by omega) Pk.ts_len Try.underlying41 cn_Pk (fun m _ => opensPk m)
end
end Go.Proofs.Ytnkafjkcjpajgaa
namespace Go.Proofs.Ytnkafjkcjpajgaa
open Go.ChangeShapes Go.WideShapes Go.ChangeAt Go.RowKit Go.Deep
section
variable {H : Type} {enc : TypeId × Value → H} {w : World} {base : Nat} {spare : Nat → Bool} {held : Bool}
theorem cn_string : Try.prog.cellsOf 9 = 1 := by kernel_rfl
def Str.sizes (l : List ByteArray) : Nat := (l.map fun s => s.size + 1).sum
theorem opensStrl (fuel : Nat) : Opens enc Try.prog w base spare held 57 (fun l : List ByteArray => [strRow l]) (fun l => Str.sizes l + 1) fuel :=
  opens_slice strTs (fun s => s.size + 1) 1 (by omega) (fun _ => rfl) Try.underlying57 cn_string (fun m _ => opens_strz Try.underlying9)
end
end Go.Proofs.Ytnkafjkcjpajgaa
