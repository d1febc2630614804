/-
  Texts of this proof, part 6: Tsh Tsh3 Tex Psa Psb Ab27 Ab20 Ab21 Ab22 Ab23 Ab24 Ab29.
-/
import Derived.Test.YtbfomgchjlkopaaDoorQPageLines5
import Derived.Laws.IdiomRangeMap
import Derived.Laws.Strings2
import Derived.Lib.AppendStr
import Derived.Lib.MinMax
import Derived.MapKept
namespace Go.Proofs.YtbfomgchjlkopaaDoor
open Go.RowKit
theorem len_mt {α β : Type} (f : α → β) {l : List α} {k : Nat} (h : k ≤ l.length) : ((l.take k).map f).length = k := by simp; omega
theorem len_ms {α β : Type} (f : α → β) {l : List α} {k : Nat} {a : α} (h : l[k]? = some a) : ((l.take (k + 1)).map f).length = ((l.take k).map f).length + 1 := by
  obtain ⟨h1, _⟩ := List.getElem?_eq_some_iff.1 h
  simp; omega
theorem str_snoc {α : Type} (f : α → ByteArray) {l : List α} {k : Nat} {a : α} (h : l[k]? = some a) : ((l.take (k + 1)).map f).flatMap strTs = ((l.take k).map f).flatMap strTs ++ [.lit (.string (f a))] := by
  obtain ⟨h1, rfl⟩ := List.getElem?_eq_some_iff.1 h
  rw [List.take_succ_eq_append_getElem h1, List.map_append, List.flatMap_append]; rfl
set_option maxRecDepth 100000 in
set_option maxHeartbeats 1000000 in
theorem joined_af (l : List Y) (hl : l.length ≤ 1048576) (hb : lensS (l.map Y.text) ≤ 1000000000) (hf : ∀ a ∈ l, AF Tryd.prog 45 [a.t] (· = .lit (.string a.text))) :
    AF Tryd.prog 63 [Y.row l, .fn (.func 45) []] (· = .lit (.string (joinS (l.map Y.text) ⟨#[44, 32]⟩))) := by
  have hj := join_af (l.map Y.text) ⟨#[44, 32]⟩ (by simp; omega) (by have := joinS_len (l.map Y.text); omega)
  refine af_enter tok Tryd.func63 Tryd.ntmps63 Tryd.results63 rfl (by kernel_rfl) rfl rfl fun F hX => ?_
  repeat (first | refine gG ?_ | refine zN1 (fun hlen => ?_) | refine zN2 (fun hlen => ?_) | refine zAl (fun _ => ?_) | refine zAp (fun _ => ?_))
  refine x_own 5 9 1 rfl rfl rfl rfl rfl ?_
  refine x_loop [5, 7, 10, 11, 12, 13, 14, 15, 16, 17, 18, 19, 20] (fun y : Nat × Value => [(10, .c (.lit (.int .i64 y.1))), (5, .own 0 y.2)]) (fun y => [.row y.2 9 1 ((l.take y.1).map Y.text).length (((l.take y.1).map Y.text).flatMap strTs)]) (fun y => y.1 ≤ l.length) (fun y => l.length - y.1) (0, .slice none 0 0) (Nat.zero_le _) ⟨rfl, rfl, trivial⟩ rfl ?_
  rintro ⟨k, v⟩ hk
  dsimp only at hk ⊢
  have hlk := len_mt Y.text hk
  repeat (first | refine gG ?_ | refine zN1 (fun hlen => ?_) | refine zN2 (fun hlen => ?_) | refine zAl (fun _ => ?_) | refine zAp (fun _ => ?_))
  refine x_cond rfl (fun h => ?_) (fun h => ?_)
  · have hk' : k < l.length := by simpa using h
    obtain ⟨a, ha⟩ := nth hk'
    have hfa := hf a (List.mem_of_getElem? ha)
    have hsn := str_snoc Y.text ha
    have hsl := len_ms Y.text ha
    repeat (first | refine gG ?_ | refine zN1 (fun hlen => ?_) | refine zN2 (fun hlen => ?_) | refine zAl (fun _ => ?_) | refine zAp (fun _ => ?_))
    refine zIx (k) (hk') ?_
    repeat (first | refine gG ?_ | refine zN1 (fun hlen => ?_) | refine zN2 (fun hlen => ?_) | refine zAl (fun _ => ?_) | refine zAp (fun _ => ?_))
    refine zEl (Y.at ha) (Y.ts_len a) ?_
    generalize Y.text a = ax at *
    obtain ⟨ka, ta, la⟩ := a
    repeat (first | refine gG ?_ | refine zN1 (fun hlen => ?_) | refine zN2 (fun hlen => ?_) | refine zAl (fun _ => ?_) | refine zAp (fun _ => ?_))
    refine zCallc (hfa) ?_
    rintro _ rfl
    repeat (first | refine gG ?_ | refine zN1 (fun hlen => ?_) | refine zN2 (fun hlen => ?_) | refine zAl (fun _ => ?_) | refine zAp (fun _ => ?_))
    exact ⟨(k + 1, _), hk', by simp only; omega, x_wkd 1 ⟨rfl, rfl, trivial⟩ (by simp only [hsn, hsl]; rfl) (by repeat (first | exact ag_refl | refine ag_upd rfl ?_ | refine ag_at rfl rfl ?_))⟩
  · have hk' : k = l.length := by have : ¬ k < l.length := by simpa using h
                                  omega
    subst hk'
    rw [List.take_length]
    repeat (first | refine gG ?_ | refine zN1 (fun hlen => ?_) | refine zN2 (fun hlen => ?_) | refine zAl (fun _ => ?_) | refine zAp (fun _ => ?_))
    refine zPeek (hj) ?_
    rintro _ rfl
    refine ⟨rfl, ?_⟩
    repeat (first | refine gG ?_ | refine zN1 (fun hlen => ?_) | refine zN2 (fun hlen => ?_) | refine zAl (fun _ => ?_) | refine zAp (fun _ => ?_))
    first | refine zR ?_ | refine zQ ?_
    rfl
end Go.Proofs.YtbfomgchjlkopaaDoor
namespace Go.Proofs.YtbfomgchjlkopaaDoor
open Go.RowKit
theorem txt_size (k : Int) (nm : ByteArray) (xs : List ByteArray) : (txt k nm xs).size ≤ nm.size + 10 + lensS xs := by
  have h1 := joinS_size xs
  have h2 : xs.length ≠ 0 → (joinS (xs.take (xs.length - 1)) ⟨#[44, 32]⟩).size + (xs.getD (xs.length - 1) ⟨#[]⟩).size ≤ lensS xs := by
    intro hne
    have h3 := joinS_size (xs.take (xs.length - 1))
    have hlt : xs.length - 1 < xs.length := by omega
    have h4 : lensS xs = lensS (xs.take (xs.length - 1)) + lensS (xs.drop (xs.length - 1)) := by
      unfold lensS
      rw [← List.sum_append, ← List.map_append, List.take_append_drop]
    have h5 : (xs.getD (xs.length - 1) ⟨#[]⟩).size ≤ lensS (xs.drop (xs.length - 1)) := by
      refine lensS_mem ?_
      rw [List.getD_eq_getElem?_getD, List.getElem?_eq_getElem hlt, List.drop_eq_getElem_cons hlt, Option.getD_some]
      exact List.mem_cons_self
    omega
  unfold txt
  repeat' split
  all_goals (try simp only [ByteArray.size_append])
  all_goals (try have h6 := h2 (by assumption))
  all_goals simp only [ByteArray.size, List.size_toArray, List.length_cons, List.length_nil] at *
  all_goals omega
theorem Y.text_size (y : Y) : y.text.size + 2 ≤ 12 * y.size := by
  induction y using Y.ind with
  | h k nm l ih =>
    have h1 := txt_size k nm (Y.texts l)
    have h2 : lensS (Y.texts l) ≤ 12 * Y.sizes l := by
      clear h1
      induction l with
      | nil => simp [Y.texts, lensS]
      | cons y l ihl =>
        have h3 := ih y (by simp)
        have h4 := ihl fun v hv => ih v (by simp [hv])
        simp only [Y.texts, lensS, List.map_cons, List.sum_cons, Y.sizes] at h4 ⊢
        omega
    simp only [Y.text, Y.size]
    omega
theorem Y.lens (l : List Y) : lensS (l.map Y.text) ≤ 12 * Y.sizes l := by
  induction l with
  | nil => simp [lensS]
  | cons y l ih =>
    have h3 := y.text_size
    simp only [lensS, List.map_cons, List.sum_cons, Y.sizes] at ih ⊢
    omega
theorem Y.text_at {l : List Y} {k : Nat} {a : Y} (h : l[k]? = some a) : (Y.texts l).getD k ⟨#[]⟩ = a.text := by
  rw [Y.texts_eq, List.getD_eq_getElem?_getD, List.getElem?_map, h]; rfl
theorem Y.all_take (l : List Y) (k : Nat) : (Y.all l).take (k * 3) = Y.all (l.take k) := by
  by_cases hk : k ≤ l.length
  · have h1 : Y.all l = Y.all (l.take k) ++ Y.all (l.drop k) := by rw [← Y.all_app, List.take_append_drop]
    have hl : (Y.all (l.take k)).length = k * 3 := by rw [Y.all_eq, flat_len Y.ts 3 Y.ts_len]; simp; omega
    rw [h1]
    exact List.take_left' hl
  · rw [List.take_of_length_le (l := l) (by omega), List.take_of_length_le (by rw [Y.all_eq, flat_len Y.ts 3 Y.ts_len]; omega)]
set_option maxRecDepth 100000 in
set_option maxHeartbeats 1000000 in
theorem showK1 (nm : ByteArray) (l : List Y) (hv : (Y.mk 1 nm l).size ≤ 1048576) (ih' : ∀ a ∈ l, AF Tryd.prog 45 [a.t] (· = .lit (.string a.text))) : AF Tryd.prog 45 [(Y.mk 1 nm l).t] (· = .lit (.string (Y.mk 1 nm l).text)) := by
  have hls := Y.len_sizes l
  have hsz : Y.sizes l + nm.size + 1 ≤ 1048576 := by simpa [Y.size] using hv
  have hb := Y.lens l
  have hjn := joined_af l (by omega) (by omega) ih'
  have hjs := joinS_size (l.map Y.text)
  have hte := Y.texts_eq l
  have hT : Y.text (.mk 1 nm l) = txt 1 nm (l.map Y.text) := by rw [Y.text, hte]
  refine af_enter tok Tryd.func45 Tryd.ntmps45 Tryd.results45 rfl (by kernel_rfl) rfl rfl fun F hX => ?_
  repeat (first | refine gG ?_ | refine zN1 (fun hlen => ?_) | refine zN2 (fun hlen => ?_) | refine zSub ?_ | refine zBx (fun _ => ?_))
  first | refine zR ?_ | refine zQ ?_
  rw [hT]; simp [txt, outT]
set_option maxRecDepth 100000 in
set_option maxHeartbeats 1000000 in
theorem showK2 (nm : ByteArray) (l : List Y) (hv : (Y.mk 2 nm l).size ≤ 1048576) (ih' : ∀ a ∈ l, AF Tryd.prog 45 [a.t] (· = .lit (.string a.text))) : AF Tryd.prog 45 [(Y.mk 2 nm l).t] (· = .lit (.string (Y.mk 2 nm l).text)) := by
  have hls := Y.len_sizes l
  have hsz : Y.sizes l + nm.size + 1 ≤ 1048576 := by simpa [Y.size] using hv
  have hb := Y.lens l
  have hjn := joined_af l (by omega) (by omega) ih'
  have hjs := joinS_size (l.map Y.text)
  have hte := Y.texts_eq l
  have hT : Y.text (.mk 2 nm l) = txt 2 nm (l.map Y.text) := by rw [Y.text, hte]
  refine af_enter tok Tryd.func45 Tryd.ntmps45 Tryd.results45 rfl (by kernel_rfl) rfl rfl fun F hX => ?_
  repeat (first | refine gG ?_ | refine zN1 (fun hlen => ?_) | refine zN2 (fun hlen => ?_) | refine zSub ?_ | refine zBx (fun _ => ?_))
  first | refine zR ?_ | refine zQ ?_
  rw [hT]; simp [txt, outT]
set_option maxRecDepth 100000 in
set_option maxHeartbeats 1000000 in
theorem showK3 (nm : ByteArray) (l : List Y) (hv : (Y.mk 3 nm l).size ≤ 1048576) (ih' : ∀ a ∈ l, AF Tryd.prog 45 [a.t] (· = .lit (.string a.text))) : AF Tryd.prog 45 [(Y.mk 3 nm l).t] (· = .lit (.string (Y.mk 3 nm l).text)) := by
  have hls := Y.len_sizes l
  have hsz : Y.sizes l + nm.size + 1 ≤ 1048576 := by simpa [Y.size] using hv
  have hb := Y.lens l
  have hjn := joined_af l (by omega) (by omega) ih'
  have hjs := joinS_size (l.map Y.text)
  have hte := Y.texts_eq l
  have hT : Y.text (.mk 3 nm l) = txt 3 nm (l.map Y.text) := by rw [Y.text, hte]
  refine af_enter tok Tryd.func45 Tryd.ntmps45 Tryd.results45 rfl (by kernel_rfl) rfl rfl fun F hX => ?_
  repeat (first | refine gG ?_ | refine zN1 (fun hlen => ?_) | refine zN2 (fun hlen => ?_) | refine zSub ?_ | refine zBx (fun _ => ?_))
  first | refine zR ?_ | refine zQ ?_
  rw [hT]; simp [txt, outT]
set_option maxRecDepth 100000 in
set_option maxHeartbeats 1000000 in
theorem showK4 (nm : ByteArray) (l : List Y) (hv : (Y.mk 4 nm l).size ≤ 1048576) (ih' : ∀ a ∈ l, AF Tryd.prog 45 [a.t] (· = .lit (.string a.text))) : AF Tryd.prog 45 [(Y.mk 4 nm l).t] (· = .lit (.string (Y.mk 4 nm l).text)) := by
  have hls := Y.len_sizes l
  have hsz : Y.sizes l + nm.size + 1 ≤ 1048576 := by simpa [Y.size] using hv
  have hb := Y.lens l
  have hjn := joined_af l (by omega) (by omega) ih'
  have hjs := joinS_size (l.map Y.text)
  have hte := Y.texts_eq l
  have hT : Y.text (.mk 4 nm l) = txt 4 nm (l.map Y.text) := by rw [Y.text, hte]
  refine af_enter tok Tryd.func45 Tryd.ntmps45 Tryd.results45 rfl (by kernel_rfl) rfl rfl fun F hX => ?_
  repeat (first | refine gG ?_ | refine zN1 (fun hlen => ?_) | refine zN2 (fun hlen => ?_) | refine zSub ?_ | refine zBx (fun _ => ?_))
  first | refine zR ?_ | refine zQ ?_
  rw [hT]; simp [txt, outT]
set_option maxRecDepth 100000 in
set_option maxHeartbeats 1000000 in
theorem showK5 (nm : ByteArray) (l : List Y) (hv : (Y.mk 5 nm l).size ≤ 1048576) (ih' : ∀ a ∈ l, AF Tryd.prog 45 [a.t] (· = .lit (.string a.text))) : AF Tryd.prog 45 [(Y.mk 5 nm l).t] (· = .lit (.string (Y.mk 5 nm l).text)) := by
  have hls := Y.len_sizes l
  have hsz : Y.sizes l + nm.size + 1 ≤ 1048576 := by simpa [Y.size] using hv
  have hb := Y.lens l
  have hjn := joined_af l (by omega) (by omega) ih'
  have hjs := joinS_size (l.map Y.text)
  have hte := Y.texts_eq l
  have hT : Y.text (.mk 5 nm l) = txt 5 nm (l.map Y.text) := by rw [Y.text, hte]
  refine af_enter tok Tryd.func45 Tryd.ntmps45 Tryd.results45 rfl (by kernel_rfl) rfl rfl fun F hX => ?_
  repeat (first | refine gG ?_ | refine zN1 (fun hlen => ?_) | refine zN2 (fun hlen => ?_) | refine zSub ?_ | refine zBx (fun _ => ?_))
  first | refine zR ?_ | refine zQ ?_
  rw [hT]; simp [txt, outT]
set_option maxRecDepth 100000 in
set_option maxHeartbeats 1000000 in
theorem showK6 (nm : ByteArray) (l : List Y) (hv : (Y.mk 6 nm l).size ≤ 1048576) (ih' : ∀ a ∈ l, AF Tryd.prog 45 [a.t] (· = .lit (.string a.text))) : AF Tryd.prog 45 [(Y.mk 6 nm l).t] (· = .lit (.string (Y.mk 6 nm l).text)) := by
  have hls := Y.len_sizes l
  have hsz : Y.sizes l + nm.size + 1 ≤ 1048576 := by simpa [Y.size] using hv
  have hb := Y.lens l
  have hjn := joined_af l (by omega) (by omega) ih'
  have hjs := joinS_size (l.map Y.text)
  have hte := Y.texts_eq l
  have hT : Y.text (.mk 6 nm l) = txt 6 nm (l.map Y.text) := by rw [Y.text, hte]
  cases d1 : decide ((l.length : Int) = 0)
  · have hl0 : ¬ l.length = 0 := by have := of_decide_eq_false d1; omega
    refine af_enter tok Tryd.func45 Tryd.ntmps45 Tryd.results45 rfl (by kernel_rfl) rfl rfl fun F hX => ?_
    repeat (first | refine gG ?_ | refine zN1 (fun hlen => ?_) | refine zN2 (fun hlen => ?_) | refine zSub ?_ | refine zBx (fun _ => ?_))
    refine ac_draw [1, 1, 1, 1, 1, 1, 1, 1, 1] [0, 1, 2, 3, 4, 5, 6, 7, 8] (by kernel_rfl) (by kernel_rfl) ?_
    refine gW ?_
    apply w_q; (focus exact rfl); (focus exact rfl); focus (intro _; (refine zCat ?_); exact det_refl)
    refine gW ?_
    apply w_q; (focus exact rfl); (focus exact rfl); focus (intro _; (refine lo_call hjn rfl (by repeat (first | exact rzs_nil | apply rzs_cons | exact rz_c | exact rz_nil rfl | apply rz_agg | exact rz_own rfl | apply rz_fn | exact rz_ptr rfl | apply rz_tup)) ?_; rintro _ rfl); exact det_refl)
    apply w_q; (focus exact rfl); (focus exact rfl); focus (intro _; (refine zCat ?_); exact det_refl)
    apply w_q; (focus exact rfl); (focus exact rfl); focus (intro _; (refine zCat ?_); exact det_refl)
    refine gW ?_
    refine w_nil ?_
    repeat (first | refine gG ?_ | refine zN1 (fun hlen => ?_) | refine zN2 (fun hlen => ?_) | refine zSub ?_ | refine zBx (fun _ => ?_))
    first | refine zR ?_ | refine zQ ?_
    rw [hT]; simp [txt, outT, hl0]
  · have hl0 : l.length = 0 := by have := of_decide_eq_true d1; omega
    refine af_enter tok Tryd.func45 Tryd.ntmps45 Tryd.results45 rfl (by kernel_rfl) rfl rfl fun F hX => ?_
    repeat (first | refine gG ?_ | refine zN1 (fun hlen => ?_) | refine zN2 (fun hlen => ?_) | refine zSub ?_ | refine zBx (fun _ => ?_))
    first | refine zR ?_ | refine zQ ?_
    rw [hT]; simp [txt, outT, hl0]
set_option maxRecDepth 100000 in
set_option maxHeartbeats 1000000 in
theorem showK8 (nm : ByteArray) (l : List Y) (hv : (Y.mk 8 nm l).size ≤ 1048576) (ih' : ∀ a ∈ l, AF Tryd.prog 45 [a.t] (· = .lit (.string a.text))) : AF Tryd.prog 45 [(Y.mk 8 nm l).t] (· = .lit (.string (Y.mk 8 nm l).text)) := by
  have hls := Y.len_sizes l
  have hsz : Y.sizes l + nm.size + 1 ≤ 1048576 := by simpa [Y.size] using hv
  have hb := Y.lens l
  have hjn := joined_af l (by omega) (by omega) ih'
  have hjs := joinS_size (l.map Y.text)
  have hte := Y.texts_eq l
  have hT : Y.text (.mk 8 nm l) = txt 8 nm (l.map Y.text) := by rw [Y.text, hte]
  refine af_enter tok Tryd.func45 Tryd.ntmps45 Tryd.results45 rfl (by kernel_rfl) rfl rfl fun F hX => ?_
  repeat (first | refine gG ?_ | refine zN1 (fun hlen => ?_) | refine zN2 (fun hlen => ?_) | refine zSub ?_ | refine zBx (fun _ => ?_))
  refine zCall (hjn) ?_
  rintro _ rfl
  repeat (first | refine gG ?_ | refine zN1 (fun hlen => ?_) | refine zN2 (fun hlen => ?_) | refine zSub ?_ | refine zBx (fun _ => ?_))
  refine zCat ?_
  repeat (first | refine gG ?_ | refine zN1 (fun hlen => ?_) | refine zN2 (fun hlen => ?_) | refine zSub ?_ | refine zBx (fun _ => ?_))
  refine zCat ?_
  repeat (first | refine gG ?_ | refine zN1 (fun hlen => ?_) | refine zN2 (fun hlen => ?_) | refine zSub ?_ | refine zBx (fun _ => ?_))
  first | refine zR ?_ | refine zQ ?_
  rw [hT]; simp [txt, outT]
set_option maxRecDepth 100000 in
set_option maxHeartbeats 1000000 in
theorem showK9 (nm : ByteArray) (l : List Y) (hv : (Y.mk 9 nm l).size ≤ 1048576) (ih' : ∀ a ∈ l, AF Tryd.prog 45 [a.t] (· = .lit (.string a.text))) : AF Tryd.prog 45 [(Y.mk 9 nm l).t] (· = .lit (.string (Y.mk 9 nm l).text)) := by
  have hls := Y.len_sizes l
  have hsz : Y.sizes l + nm.size + 1 ≤ 1048576 := by simpa [Y.size] using hv
  have hb := Y.lens l
  have hjn := joined_af l (by omega) (by omega) ih'
  have hjs := joinS_size (l.map Y.text)
  have hte := Y.texts_eq l
  have hT : Y.text (.mk 9 nm l) = txt 9 nm (l.map Y.text) := by rw [Y.text, hte]
  refine af_enter tok Tryd.func45 Tryd.ntmps45 Tryd.results45 rfl (by kernel_rfl) rfl rfl fun F hX => ?_
  repeat (first | refine gG ?_ | refine zN1 (fun hlen => ?_) | refine zN2 (fun hlen => ?_) | refine zSub ?_ | refine zBx (fun _ => ?_))
  refine zCall (hjn) ?_
  rintro _ rfl
  repeat (first | refine gG ?_ | refine zN1 (fun hlen => ?_) | refine zN2 (fun hlen => ?_) | refine zSub ?_ | refine zBx (fun _ => ?_))
  refine zCat ?_
  repeat (first | refine gG ?_ | refine zN1 (fun hlen => ?_) | refine zN2 (fun hlen => ?_) | refine zSub ?_ | refine zBx (fun _ => ?_))
  refine zCat ?_
  repeat (first | refine gG ?_ | refine zN1 (fun hlen => ?_) | refine zN2 (fun hlen => ?_) | refine zSub ?_ | refine zBx (fun _ => ?_))
  first | refine zR ?_ | refine zQ ?_
  rw [hT]; simp [txt, outT]
set_option maxRecDepth 100000 in
set_option maxHeartbeats 1000000 in
theorem showK0 (k : Int) (nm : ByteArray) (l : List Y) (k1 : ¬ k = 1) (k2 : ¬ k = 2) (k3 : ¬ k = 3) (k4 : ¬ k = 4) (k5 : ¬ k = 5) (k6 : ¬ k = 6) (k7 : ¬ k = 7) (k8 : ¬ k = 8) (k9 : ¬ k = 9) (hv : (Y.mk k nm l).size ≤ 1048576) (ih' : ∀ a ∈ l, AF Tryd.prog 45 [a.t] (· = .lit (.string a.text))) : AF Tryd.prog 45 [(Y.mk k nm l).t] (· = .lit (.string (Y.mk k nm l).text)) := by
  have hls := Y.len_sizes l
  have hsz : Y.sizes l + nm.size + 1 ≤ 1048576 := by simpa [Y.size] using hv
  have hb := Y.lens l
  have hjn := joined_af l (by omega) (by omega) ih'
  have hjs := joinS_size (l.map Y.text)
  have hte := Y.texts_eq l
  have hT : Y.text (.mk k nm l) = txt k nm (l.map Y.text) := by rw [Y.text, hte]
  have e1 : decide (k = 1) = false := by simpa using k1
  have e2 : decide (k = 2) = false := by simpa using k2
  have e3 : decide (k = 3) = false := by simpa using k3
  have e4 : decide (k = 4) = false := by simpa using k4
  have e5 : decide (k = 5) = false := by simpa using k5
  have e6 : decide (k = 6) = false := by simpa using k6
  have e7 : decide (k = 7) = false := by simpa using k7
  have e8 : decide (k = 8) = false := by simpa using k8
  have e9 : decide (k = 9) = false := by simpa using k9
  refine af_enter tok Tryd.func45 Tryd.ntmps45 Tryd.results45 rfl (by kernel_rfl) rfl rfl fun F hX => ?_
  repeat (first | refine gG ?_ | refine zN1 (fun hlen => ?_) | refine zN2 (fun hlen => ?_) | refine zSub ?_ | refine zBx (fun _ => ?_))
  first | refine zR ?_ | refine zQ ?_
  rw [hT]; simp [txt, outT, k1, k2, k3, k4, k5, k6, k7, k8, k9]
end Go.Proofs.YtbfomgchjlkopaaDoor
namespace Go.Proofs.YtbfomgchjlkopaaDoor
open Go.RowKit
mutual
inductive Ex where
  | mk (kind num : Int) (text : ByteArray) (names : List ByteArray) (types : List Y) (args : List Ex) (arms : List Ar) (pos : Int)
inductive Ar where
  | mk (pat : V) (body : Ex)
end
mutual
def Ex.ts : Ex → List T
  | .mk k n t ns ys l rs a => [.lit (.int .i64 k), .lit (.int .i64 n), .lit (.string t), strRow ns, Y.row ys, .row l.length 8 (Ex.all l), .row rs.length 12 (Ar.all rs), .lit (.int .i64 a)]
def Ex.all : List Ex → List T
  | [] => []
  | v :: r => v.ts ++ Ex.all r
def Ar.ts : Ar → List T
  | .mk p b => p.ts ++ b.ts
def Ar.all : List Ar → List T
  | [] => []
  | v :: r => v.ts ++ Ar.all r
end
theorem Ex.all_eq : ∀ l : List Ex, Ex.all l = l.flatMap Ex.ts
  | [] => rfl
  | v :: l => by rw [Ex.all, Ex.all_eq l]; rfl
theorem Ar.all_eq : ∀ l : List Ar, Ar.all l = l.flatMap Ar.ts
  | [] => rfl
  | v :: l => by rw [Ar.all, Ar.all_eq l]; rfl
theorem Ex.ts_len : ∀ v : Ex, v.ts.length = 8
  | .mk _ _ _ _ _ _ _ _ => rfl
theorem Ar.ts_len : ∀ v : Ar, v.ts.length = 12
  | .mk p b => by rw [Ar.ts, List.length_append, V.ts_len, Ex.ts_len]
def Ex.row (l : List Ex) : T := .row l.length 8 (Ex.all l)
def Ex.t (v : Ex) : T := .agg v.ts
def Ar.row (l : List Ar) : T := .row l.length 12 (Ar.all l)
theorem Ex.at {l : List Ex} {k : Nat} {v : Ex} (h : l[k]? = some v) : ((Ex.all l).drop (k * 8)).take 8 = v.ts := by rw [Ex.all_eq]; exact flat_at Ex.ts 8 Ex.ts_len h
theorem Ar.at {l : List Ar} {k : Nat} {v : Ar} (h : l[k]? = some v) : ((Ar.all l).drop (k * 12)).take 12 = v.ts := by rw [Ar.all_eq]; exact flat_at Ar.ts 12 Ar.ts_len h
theorem Ex.all_app (l r : List Ex) : Ex.all (l ++ r) = Ex.all l ++ Ex.all r := by simp [Ex.all_eq]
theorem V.all_app' (l r : List V) : V.all (l ++ r) = V.all l ++ V.all r := by simp [V.all_eq]
def strSize (l : List ByteArray) : Nat := (l.map fun s => s.size + 1).sum
mutual
def Ex.size : Ex → Nat
  | .mk _ _ t ns ys l rs _ => t.size + strSize ns + Y.sizes ys + Ex.sizes l + Ar.sizes rs + 1
def Ex.sizes : List Ex → Nat
  | [] => 0
  | v :: r => v.size + Ex.sizes r
def Ar.size : Ar → Nat
  | .mk p b => p.size + b.size
def Ar.sizes : List Ar → Nat
  | [] => 0
  | v :: r => v.size + Ar.sizes r
end
theorem Ex.sizes_sum : ∀ l : List Ex, Ex.sizes l = (l.map Ex.size).sum
  | [] => rfl
  | v :: l => by simp [Ex.sizes, Ex.sizes_sum l]
theorem Ar.sizes_sum : ∀ l : List Ar, Ar.sizes l = (l.map Ar.size).sum
  | [] => rfl
  | v :: l => by simp [Ar.sizes, Ar.sizes_sum l]
theorem sum_mem' {α : Type} (μ : α → Nat) : ∀ {l : List α} {a : α}, a ∈ l → μ a ≤ (l.map μ).sum
  | [], _, h => by simp at h
  | x :: l, a, h => by
    simp only [List.map_cons, List.sum_cons]
    rcases List.mem_cons.1 h with rfl | h
    · omega
    · have := sum_mem' μ h; omega
theorem len_sum' {α : Type} (μ : α → Nat) (h : ∀ a, 1 ≤ μ a) : ∀ l : List α, l.length ≤ (l.map μ).sum
  | [] => by simp
  | x :: l => by have := h x; have := len_sum' μ h l; simp only [List.map_cons, List.sum_cons, List.length_cons]; omega
theorem Ex.size_mem {v : Ex} {l : List Ex} (h : v ∈ l) : v.size ≤ Ex.sizes l := by rw [Ex.sizes_sum]; exact sum_mem' Ex.size h
theorem Ar.size_mem {v : Ar} {l : List Ar} (h : v ∈ l) : v.size ≤ Ar.sizes l := by rw [Ar.sizes_sum]; exact sum_mem' Ar.size h
theorem Ex.size_pos : ∀ v : Ex, 1 ≤ v.size
  | .mk _ _ _ _ _ _ _ _ => by simp only [Ex.size]; omega
theorem Ar.size_pos : ∀ v : Ar, 1 ≤ v.size
  | .mk p b => by have := b.size_pos; simp only [Ar.size]; omega
theorem Ex.len_sizes (l : List Ex) : l.length ≤ Ex.sizes l := by rw [Ex.sizes_sum]; exact len_sum' Ex.size Ex.size_pos l
theorem Ar.len_sizes (l : List Ar) : l.length ≤ Ar.sizes l := by rw [Ar.sizes_sum]; exact len_sum' Ar.size Ar.size_pos l
theorem strSize_len (l : List ByteArray) : l.length ≤ strSize l := len_sum' (fun s : ByteArray => s.size + 1) (fun _ => by omega) l
instance : Inhabited Ex := ⟨.mk 0 0 ⟨#[]⟩ [] [] [] [] 0⟩
instance : Inhabited Ar := ⟨.mk (.mk 0 0 ⟨#[]⟩ []) default⟩
structure Us where
  name : ByteArray
  low : Int
  high : Int
def Us.ts : Us → List T
  | ⟨f_name, f_low, f_high⟩ => [.lit (.string f_name), .lit (.int .i64 f_low), .lit (.int .i64 f_high)]
theorem Us.ts_len (x : Us) : x.ts.length = 3 := by simp [Us.ts]
def Us.t (x : Us) : T := .agg x.ts
def Us.row (l : List Us) : T := .row l.length 3 (l.flatMap Us.ts)
theorem Us.at {l : List Us} {k : Nat} {x : Us} (h : l[k]? = some x) : ((l.flatMap Us.ts).drop (k * 3)).take 3 = x.ts := flat_at Us.ts 3 Us.ts_len h
def Us.size : Us → Nat
  | ⟨f_name, _, _⟩ => f_name.size + 1
def Us.sizes (l : List Us) : Nat := (l.map Us.size).sum
theorem Us.size_mem {x : Us} {l : List Us} (h : x ∈ l) : x.size ≤ Us.sizes l := sum_mem' Us.size h
theorem Us.len_sizes (l : List Us) : l.length ≤ Us.sizes l := len_sum' Us.size (fun x => by simp only [Us.size]; omega) l
instance : Inhabited Us := ⟨⟨⟨#[]⟩, 0, 0⟩⟩
structure Mk where
  name : ByteArray
  args : List Y
def Mk.ts : Mk → List T
  | ⟨f_name, f_args⟩ => [.lit (.string f_name), Y.row f_args]
theorem Mk.ts_len (x : Mk) : x.ts.length = 2 := by simp [Mk.ts]
def Mk.t (x : Mk) : T := .agg x.ts
def Mk.row (l : List Mk) : T := .row l.length 2 (l.flatMap Mk.ts)
theorem Mk.at {l : List Mk} {k : Nat} {x : Mk} (h : l[k]? = some x) : ((l.flatMap Mk.ts).drop (k * 2)).take 2 = x.ts := flat_at Mk.ts 2 Mk.ts_len h
def Mk.size : Mk → Nat
  | ⟨f_name, f_args⟩ => f_name.size + Y.sizes f_args + 1
def Mk.sizes (l : List Mk) : Nat := (l.map Mk.size).sum
theorem Mk.size_mem {x : Mk} {l : List Mk} (h : x ∈ l) : x.size ≤ Mk.sizes l := sum_mem' Mk.size h
theorem Mk.len_sizes (l : List Mk) : l.length ≤ Mk.sizes l := len_sum' Mk.size (fun x => by simp only [Mk.size]; omega) l
instance : Inhabited Mk := ⟨⟨⟨#[]⟩, []⟩⟩
structure Da where
  name : ByteArray
  params : List ByteArray
  makes : List Mk
def Da.ts : Da → List T
  | ⟨f_name, f_params, f_makes⟩ => [.lit (.string f_name), strRow f_params, Mk.row f_makes]
theorem Da.ts_len (x : Da) : x.ts.length = 3 := by simp [Da.ts]
def Da.t (x : Da) : T := .agg x.ts
def Da.row (l : List Da) : T := .row l.length 3 (l.flatMap Da.ts)
theorem Da.at {l : List Da} {k : Nat} {x : Da} (h : l[k]? = some x) : ((l.flatMap Da.ts).drop (k * 3)).take 3 = x.ts := flat_at Da.ts 3 Da.ts_len h
def Da.size : Da → Nat
  | ⟨f_name, f_params, f_makes⟩ => f_name.size + strSize f_params + Mk.sizes f_makes + 1
def Da.sizes (l : List Da) : Nat := (l.map Da.size).sum
theorem Da.size_mem {x : Da} {l : List Da} (h : x ∈ l) : x.size ≤ Da.sizes l := sum_mem' Da.size h
theorem Da.len_sizes (l : List Da) : l.length ≤ Da.sizes l := len_sum' Da.size (fun x => by simp only [Da.size]; omega) l
instance : Inhabited Da := ⟨⟨⟨#[]⟩, [], []⟩⟩
structure Fu where
  name : ByteArray
  params : List ByteArray
  names : List ByteArray
  types : List Y
  out : Y
  body : Ex
def Fu.ts : Fu → List T
  | ⟨f_name, f_params, f_names, f_types, f_out, f_body⟩ => [.lit (.string f_name), strRow f_params, strRow f_names, Y.row f_types] ++ f_out.ts ++ f_body.ts
theorem Fu.ts_len (x : Fu) : x.ts.length = 15 := by simp [Fu.ts, Ex.ts_len, Y.ts_len]
def Fu.t (x : Fu) : T := .agg x.ts
def Fu.row (l : List Fu) : T := .row l.length 15 (l.flatMap Fu.ts)
theorem Fu.at {l : List Fu} {k : Nat} {x : Fu} (h : l[k]? = some x) : ((l.flatMap Fu.ts).drop (k * 15)).take 15 = x.ts := flat_at Fu.ts 15 Fu.ts_len h
def Fu.size : Fu → Nat
  | ⟨f_name, f_params, f_names, f_types, f_out, f_body⟩ => f_name.size + strSize f_params + strSize f_names + Y.sizes f_types + f_out.size + f_body.size + 1
def Fu.sizes (l : List Fu) : Nat := (l.map Fu.size).sum
theorem Fu.size_mem {x : Fu} {l : List Fu} (h : x ∈ l) : x.size ≤ Fu.sizes l := sum_mem' Fu.size h
theorem Fu.len_sizes (l : List Fu) : l.length ≤ Fu.sizes l := len_sum' Fu.size (fun x => by simp only [Fu.size]; omega) l
instance : Inhabited Fu := ⟨⟨⟨#[]⟩, [], [], [], default, default⟩⟩
structure Tr where
  name : ByteArray
  funcs : List Fu
def Tr.ts : Tr → List T
  | ⟨f_name, f_funcs⟩ => [.lit (.string f_name), Fu.row f_funcs]
theorem Tr.ts_len (x : Tr) : x.ts.length = 2 := by simp [Tr.ts]
def Tr.t (x : Tr) : T := .agg x.ts
def Tr.row (l : List Tr) : T := .row l.length 2 (l.flatMap Tr.ts)
theorem Tr.at {l : List Tr} {k : Nat} {x : Tr} (h : l[k]? = some x) : ((l.flatMap Tr.ts).drop (k * 2)).take 2 = x.ts := flat_at Tr.ts 2 Tr.ts_len h
def Tr.size : Tr → Nat
  | ⟨f_name, f_funcs⟩ => f_name.size + Fu.sizes f_funcs + 1
def Tr.sizes (l : List Tr) : Nat := (l.map Tr.size).sum
theorem Tr.size_mem {x : Tr} {l : List Tr} (h : x ∈ l) : x.size ≤ Tr.sizes l := sum_mem' Tr.size h
theorem Tr.len_sizes (l : List Tr) : l.length ≤ Tr.sizes l := len_sum' Tr.size (fun x => by simp only [Tr.size]; omega) l
instance : Inhabited Tr := ⟨⟨⟨#[]⟩, []⟩⟩
structure Im where
  trait : ByteArray
  dat : ByteArray
  funcs : List Fu
def Im.ts : Im → List T
  | ⟨f_trait, f_dat, f_funcs⟩ => [.lit (.string f_trait), .lit (.string f_dat), Fu.row f_funcs]
theorem Im.ts_len (x : Im) : x.ts.length = 3 := by simp [Im.ts]
def Im.t (x : Im) : T := .agg x.ts
def Im.row (l : List Im) : T := .row l.length 3 (l.flatMap Im.ts)
theorem Im.at {l : List Im} {k : Nat} {x : Im} (h : l[k]? = some x) : ((l.flatMap Im.ts).drop (k * 3)).take 3 = x.ts := flat_at Im.ts 3 Im.ts_len h
def Im.size : Im → Nat
  | ⟨f_trait, f_dat, f_funcs⟩ => f_trait.size + f_dat.size + Fu.sizes f_funcs + 1
def Im.sizes (l : List Im) : Nat := (l.map Im.size).sum
theorem Im.size_mem {x : Im} {l : List Im} (h : x ∈ l) : x.size ≤ Im.sizes l := sum_mem' Im.size h
theorem Im.len_sizes (l : List Im) : l.length ≤ Im.sizes l := len_sum' Im.size (fun x => by simp only [Im.size]; omega) l
instance : Inhabited Im := ⟨⟨⟨#[]⟩, ⟨#[]⟩, []⟩⟩
structure Ac where
  name : ByteArray
  names : List ByteArray
  types : List Y
  msg : Y
  body : Ex
def Ac.ts : Ac → List T
  | ⟨f_name, f_names, f_types, f_msg, f_body⟩ => [.lit (.string f_name), strRow f_names, Y.row f_types] ++ f_msg.ts ++ f_body.ts
theorem Ac.ts_len (x : Ac) : x.ts.length = 14 := by simp [Ac.ts, Ex.ts_len, Y.ts_len]
def Ac.t (x : Ac) : T := .agg x.ts
def Ac.row (l : List Ac) : T := .row l.length 14 (l.flatMap Ac.ts)
theorem Ac.at {l : List Ac} {k : Nat} {x : Ac} (h : l[k]? = some x) : ((l.flatMap Ac.ts).drop (k * 14)).take 14 = x.ts := flat_at Ac.ts 14 Ac.ts_len h
def Ac.size : Ac → Nat
  | ⟨f_name, f_names, f_types, f_msg, f_body⟩ => f_name.size + strSize f_names + Y.sizes f_types + f_msg.size + f_body.size + 1
def Ac.sizes (l : List Ac) : Nat := (l.map Ac.size).sum
theorem Ac.size_mem {x : Ac} {l : List Ac} (h : x ∈ l) : x.size ≤ Ac.sizes l := sum_mem' Ac.size h
theorem Ac.len_sizes (l : List Ac) : l.length ≤ Ac.sizes l := len_sum' Ac.size (fun x => by simp only [Ac.size]; omega) l
instance : Inhabited Ac := ⟨⟨⟨#[]⟩, [], [], default, default⟩⟩
structure Pr where
  name : ByteArray
  version : Int
  uses : List Us
  datas : List Da
  traits : List Tr
  impls : List Im
  funcs : List Fu
  actors : List Ac
def Pr.ts : Pr → List T
  | ⟨f_name, f_version, f_uses, f_datas, f_traits, f_impls, f_funcs, f_actors⟩ => [.lit (.string f_name), .lit (.int .i64 f_version), Us.row f_uses, Da.row f_datas, Tr.row f_traits, Im.row f_impls, Fu.row f_funcs, Ac.row f_actors]
theorem Pr.ts_len (x : Pr) : x.ts.length = 8 := by simp [Pr.ts]
def Pr.t (x : Pr) : T := .agg x.ts
def Pr.row (l : List Pr) : T := .row l.length 8 (l.flatMap Pr.ts)
theorem Pr.at {l : List Pr} {k : Nat} {x : Pr} (h : l[k]? = some x) : ((l.flatMap Pr.ts).drop (k * 8)).take 8 = x.ts := flat_at Pr.ts 8 Pr.ts_len h
def Pr.size : Pr → Nat
  | ⟨f_name, _, f_uses, f_datas, f_traits, f_impls, f_funcs, f_actors⟩ => f_name.size + Us.sizes f_uses + Da.sizes f_datas + Tr.sizes f_traits + Im.sizes f_impls + Fu.sizes f_funcs + Ac.sizes f_actors + 1
def Pr.sizes (l : List Pr) : Nat := (l.map Pr.size).sum
theorem Pr.size_mem {x : Pr} {l : List Pr} (h : x ∈ l) : x.size ≤ Pr.sizes l := sum_mem' Pr.size h
theorem Pr.len_sizes (l : List Pr) : l.length ≤ Pr.sizes l := len_sum' Pr.size (fun x => by simp only [Pr.size]; omega) l
instance : Inhabited Pr := ⟨⟨⟨#[]⟩, 0, [], [], [], [], [], []⟩⟩
end Go.Proofs.YtbfomgchjlkopaaDoor
namespace Go.Proofs.YtbfomgchjlkopaaDoor
/-- a comparison: its sign turns with its sides, and it goes through -/
structure CfOk {α : Type} (cf : α → α → Int) : Prop where
  sgn : ∀ x y, cf x y < 0 ↔ 0 < cf y x
  tr : ∀ x y z, cf x y ≤ 0 → cf y z ≤ 0 → cf x z ≤ 0
section
variable {α : Type} {cf : α → α → Int}
/-- x stands ahead of y: it is less, or alike and of a lower number -/
def SR (cf : α → α → Int) (x y : α × Nat) : Prop := cf x.1 y.1 ≤ 0 ∧ (cf y.1 x.1 ≤ 0 → x.2 < y.2)
theorem CfOk.self (h : CfOk cf) (x : α) : cf x x = 0 := by
  have h1 := h.sgn x x
  omega
theorem SR.trans (h : CfOk cf) {x y z : α × Nat} (h1 : SR cf x y) (h2 : SR cf y z) : SR cf x z := by
  refine ⟨h.tr _ _ _ h1.1 h2.1, fun h3 => ?_⟩
  have h4 := h1.2 (h.tr _ _ _ h2.1 h3)
  have h5 := h2.2 (h.tr _ _ _ h3 h1.1)
  omega
theorem SR.anti {x y : α × Nat} (h1 : SR cf x y) (h2 : SR cf y x) : False := by
  have h3 := h1.2 h2.1
  have h4 := h2.2 h1.1
  omega
theorem sr_unique {a b : List (α × Nat)} (hp : a.Perm b) (ha : a.Pairwise (SR cf)) (hb : b.Pairwise (SR cf)) : a = b :=
  List.Perm.eq_of_pairwise (fun _ _ _ _ h1 h2 => (h1.anti h2).elim) ha hb hp
theorem sr_lt (h : CfOk cf) {x y : α × Nat} (hl : cf x.1 y.1 < 0) : SR cf x y := ⟨by omega, fun h2 => by have := (h.sgn _ _).1 hl; omega⟩
theorem sr_ge (h : CfOk cf) {x y : α × Nat} (hl : ¬ cf y.1 x.1 < 0) (ht : x.2 < y.2) : SR cf x y := ⟨by have := h.sgn y.1 x.1; have := h.sgn x.1 y.1; omega, fun _ => ht⟩
theorem lt_of_le_lt (h : CfOk cf) {x y z : α} (h1 : cf x y ≤ 0) (h2 : cf y z < 0) : cf x z < 0 := by
  have h3 := h.tr x y z h1 (by omega)
  rcases Int.lt_or_eq_of_le h3 with h4 | h4
  · exact h4
  · have h5 : cf z x ≤ 0 := by have := h.sgn x z; have := h.sgn z x; omega
    have h6 := h.tr z x y h5 h1
    have := (h.sgn y z).1 h2
    omega
theorem lt_of_lt_le (h : CfOk cf) {x y z : α} (h1 : cf x y < 0) (h2 : cf y z ≤ 0) : cf x z < 0 := by
  have h3 := h.tr x y z (by omega) h2
  rcases Int.lt_or_eq_of_le h3 with h4 | h4
  · exact h4
  · have h5 : cf z x ≤ 0 := by have := h.sgn x z; have := h.sgn z x; omega
    have h6 := h.tr y z x h2 h5
    have := (h.sgn x y).1 h1
    omega
theorem pw_get {l : List (α × Nat)} (h : l.Pairwise (SR cf)) {i j : Nat} (hi : i < j) (hj : j < l.length) : SR cf l[i] l[j] := List.pairwise_iff_getElem.1 h i j (by omega) hj hi
theorem pw_le (h0 : CfOk cf) {l : List (α × Nat)} (h : l.Pairwise (SR cf)) {i j : Nat} (hi : i ≤ j) (hj : j < l.length) : cf (l[i]).1 (l[j]).1 ≤ 0 := by
  rcases Nat.lt_or_eq_of_le hi with h1 | rfl
  · exact (pw_get h h1 hj).1
  · rw [h0.self]; exact Int.le_refl _
/-- what lies ahead of s in the one stands ahead of what lies behind t in the other -/
theorem cross (h0 : CfOk cf) {A B : List (α × Nat)} (hA : A.Pairwise (SR cf)) (hB : B.Pairwise (SR cf)) {s t : Nat} (hs : s ≤ A.length) (h : ∀ (h1 : s - 1 < A.length) (h2 : t < B.length), 0 < s → SR cf A[s - 1] B[t]) : ∀ x ∈ A.take s, ∀ y ∈ B.drop t, SR cf x y := by
  intro x hx y hy
  obtain ⟨i, hi, rfl⟩ := List.getElem_of_mem hx
  obtain ⟨j, hj, rfl⟩ := List.getElem_of_mem hy
  rw [List.length_take] at hi
  rw [List.length_drop] at hj
  rw [List.getElem_take, List.getElem_drop]
  have hk := h (by omega) (by omega) (by omega)
  have h1 : SR cf A[i] B[t] := by
    by_cases e : i = s - 1
    · subst e; exact hk
    · exact (pw_get hA (show i < s - 1 by omega) (by omega)).trans h0 hk
  by_cases e : j = 0
  · subst e; exact h1
  · exact h1.trans h0 (pw_get hB (show t < t + j by omega) (by omega))
/-- two runs, each cut in two, the fronts merged and the backs merged -/
theorem merge_two {A B C1 C2 : List (α × Nat)} {s t : Nat} (hA : A.Pairwise (SR cf)) (hB : B.Pairwise (SR cf)) (h1 : C1.Perm (A.take s ++ B.take t)) (h2 : C2.Perm (A.drop s ++ B.drop t)) (g1 : C1.Pairwise (SR cf)) (g2 : C2.Pairwise (SR cf))
    (c1 : ∀ x ∈ A.take s, ∀ y ∈ B.drop t, SR cf x y) (c2 : ∀ x ∈ B.take t, ∀ y ∈ A.drop s, SR cf x y) : (C1 ++ C2).Perm (A ++ B) ∧ (C1 ++ C2).Pairwise (SR cf) := by
  constructor
  · refine (h1.append h2).trans ?_
    have e : A ++ B = A.take s ++ A.drop s ++ (B.take t ++ B.drop t) := by rw [List.take_append_drop, List.take_append_drop]
    rw [e]
    generalize A.take s = a1
    generalize A.drop s = a2
    generalize B.take t = b1
    generalize B.drop t = b2
    rw [List.append_assoc, List.append_assoc]
    refine List.Perm.append_left a1 ?_
    rw [← List.append_assoc, ← List.append_assoc]
    exact List.Perm.append_right b2 List.perm_append_comm
  · refine List.pairwise_append.2 ⟨g1, g2, fun x hx y hy => ?_⟩
    have hx' := h1.mem_iff.1 hx
    have hy' := h2.mem_iff.1 hy
    rcases List.mem_append.1 hx' with hx' | hx' <;> rcases List.mem_append.1 hy' with hy' | hy'
    · have := hA
      rw [← List.take_append_drop s A, List.pairwise_append] at this
      exact this.2.2 x hx' y hy'
    · exact c1 x hx' y hy'
    · exact c2 x hx' y hy'
    · have := hB
      rw [← List.take_append_drop t B, List.pairwise_append] at this
      exact this.2.2 x hx' y hy'
/-- numbers of the one lie below those of the other -/
def TagLt (A B : List (α × Nat)) : Prop := ∀ x ∈ A, ∀ y ∈ B, x.2 < y.2
theorem TagLt.sub {A B A' B' : List (α × Nat)} (h : TagLt A B) (ha : ∀ x ∈ A', x ∈ A) (hb : ∀ x ∈ B', x ∈ B) : TagLt A' B' := fun x hx y hy => h x (ha x hx) y (hb y hy)
/-- one element put into a run behind it -/
theorem merge_one_left (h0 : CfOk cf) {x : α × Nat} {B : List (α × Nat)} (hB : B.Pairwise (SR cf)) (ht : TagLt [x] B) {i : Nat} (h1 : ∀ (k : Nat) (hk : k < B.length), k < i → cf (B[k]).1 x.1 < 0) (h2 : ∀ (k : Nat) (hk : k < B.length), i ≤ k → ¬ cf (B[k]).1 x.1 < 0) :
    (B.take i ++ x :: B.drop i).Perm ([x] ++ B) ∧ (B.take i ++ x :: B.drop i).Pairwise (SR cf) := by
  have e : B = B.take i ++ B.drop i := (List.take_append_drop i B).symm
  constructor
  · have h3 : (B.take i ++ x :: B.drop i).Perm (x :: (B.take i ++ B.drop i)) := List.perm_middle
    rw [← e] at h3
    exact h3
  · rw [e] at hB
    obtain ⟨p1, p2, p3⟩ := List.pairwise_append.1 hB
    refine List.pairwise_append.2 ⟨p1, List.pairwise_cons.2 ⟨fun y hy => ?_, p2⟩, fun y hy z hz => ?_⟩
    · obtain ⟨j, hj, rfl⟩ := List.getElem_of_mem hy
      rw [List.length_drop] at hj
      rw [List.getElem_drop]
      exact sr_ge h0 (h2 _ (by omega) (by omega)) (ht x (by simp) _ (List.getElem_mem _))
    · rcases List.mem_cons.1 hz with rfl | hz
      · obtain ⟨j, hj, rfl⟩ := List.getElem_of_mem hy
        rw [List.length_take] at hj
        rw [List.getElem_take]
        exact sr_lt h0 (h1 _ (by omega) (by omega))
      · exact p3 y hy z hz
theorem merge_one_right (h0 : CfOk cf) {y : α × Nat} {A : List (α × Nat)} (hA : A.Pairwise (SR cf)) (ht : TagLt A [y]) {i : Nat} (h1 : ∀ (k : Nat) (hk : k < A.length), k < i → ¬ cf y.1 (A[k]).1 < 0) (h2 : ∀ (k : Nat) (hk : k < A.length), i ≤ k → cf y.1 (A[k]).1 < 0) :
    (A.take i ++ y :: A.drop i).Perm (A ++ [y]) ∧ (A.take i ++ y :: A.drop i).Pairwise (SR cf) := by
  have e : A = A.take i ++ A.drop i := (List.take_append_drop i A).symm
  constructor
  · have h3 : (A.take i ++ y :: A.drop i).Perm (y :: (A.take i ++ A.drop i)) := List.perm_middle
    rw [← e] at h3
    exact h3.trans (List.perm_append_comm (l₁ := [y]) (l₂ := A))
  · rw [e] at hA
    obtain ⟨p1, p2, p3⟩ := List.pairwise_append.1 hA
    refine List.pairwise_append.2 ⟨p1, List.pairwise_cons.2 ⟨fun z hz => ?_, p2⟩, fun z hz w hw => ?_⟩
    · obtain ⟨j, hj, rfl⟩ := List.getElem_of_mem hz
      rw [List.length_drop] at hj
      rw [List.getElem_drop]
      exact sr_lt h0 (h2 _ (by omega) (by omega))
    · rcases List.mem_cons.1 hw with rfl | hw
      · obtain ⟨j, hj, rfl⟩ := List.getElem_of_mem hz
        rw [List.length_take] at hj
        rw [List.getElem_take]
        exact sr_ge h0 (h1 _ (by omega) (by omega)) (ht _ (List.getElem_mem _) w (by simp))
      · exact p3 z hz w hw
/-- a list in runs of bs elements each, the last one of no more than bs -/
inductive RunB (cf : α → α → Int) (bs : Nat) : List (α × Nat) → Prop
  | last {A : List (α × Nat)} : A.length ≤ bs → A.Pairwise (SR cf) → RunB cf bs A
  | cons {A R : List (α × Nat)} : A.length = bs → A.Pairwise (SR cf) → TagLt A R → RunB cf bs R → RunB cf bs (A ++ R)
theorem RunB.one {bs : Nat} {l : List (α × Nat)} (h : RunB cf bs l) (hl : l.length ≤ bs) : l.Pairwise (SR cf) := by
  cases h with
  | last _ h2 => exact h2
  | cons h1 h2 h3 h4 =>
    rename_i A R
    rw [List.length_append] at hl
    have : R = [] := List.eq_nil_of_length_eq_zero (by omega)
    rw [this, List.append_nil]
    exact h2
end
end Go.Proofs.YtbfomgchjlkopaaDoor
namespace Go.Proofs.YtbfomgchjlkopaaDoor
section
variable {β : Type}
theorem get_mid {P Q : List β} {x : β} {n : Nat} (h : n = P.length) : (P ++ x :: Q)[n]? = some x := by subst h; simp
theorem set_mid {P Q : List β} {x y : β} {n : Nat} (h : n = P.length) : (P ++ x :: Q).set n y = P ++ y :: Q := by subst h; simp
theorem swap_far {P Q R : List β} {x y : β} {i j : Nat} (hi : i = P.length) (hj : j = P.length + 1 + Q.length) : ((P ++ x :: (Q ++ y :: R)).set i y).set j x = P ++ y :: (Q ++ x :: R) := by
  rw [set_mid hi]
  rw [show P ++ y :: (Q ++ y :: R) = (P ++ y :: Q) ++ y :: R by simp, set_mid (by simp; omega)]
  simp
theorem get_far {P Q R : List β} {x y : β} {j : Nat} (hj : j = P.length + 1 + Q.length) : (P ++ x :: (Q ++ y :: R))[j]? = some y := by
  rw [show P ++ x :: (Q ++ y :: R) = (P ++ x :: Q) ++ y :: R by simp]
  exact get_mid (by simp; omega)
/-- two neighbours change places -/
theorem swap_near {P R : List β} {x y : β} {i j : Nat} (hi : i = P.length) (hj : j = P.length + 1) : ((P ++ x :: y :: R).set i y).set j x = P ++ y :: x :: R := swap_far (Q := []) hi (by simpa using hj)
/-- two ranges, q elements of each changed -/
def swP (X U Y V Z : List β) (q : Nat) : List β := X ++ (V.take q ++ (U.drop q ++ (Y ++ (U.take q ++ (V.drop q ++ Z)))))
theorem swP_zero (X U Y V Z : List β) : swP X U Y V Z 0 = X ++ (U ++ (Y ++ (V ++ Z))) := by simp [swP]
theorem swP_end {X U Y V Z : List β} (h : U.length = V.length) : swP X U Y V Z U.length = X ++ (V ++ (Y ++ (U ++ Z))) := by
  unfold swP
  rw [List.take_of_length_le (by omega), List.drop_of_length_le (Nat.le_refl _), List.take_length, List.drop_of_length_le (by omega)]
  simp
theorem swP_len {X U Y V Z : List β} (h : U.length = V.length) (q : Nat) : (swP X U Y V Z q).length = (X ++ (U ++ (Y ++ (V ++ Z)))).length := by
  unfold swP
  simp only [List.length_append, List.length_take, List.length_drop]
  omega
theorem swP_form {X U Y V Z : List β} (h : U.length = V.length) {q : Nat} (hq : q < U.length) : swP X U Y V Z q = (X ++ V.take q) ++ U[q] :: ((U.drop (q + 1) ++ (Y ++ U.take q)) ++ V[q] :: (V.drop (q + 1) ++ Z)) := by
  have h1 := List.drop_eq_getElem_cons hq
  have h2 := List.drop_eq_getElem_cons (show q < V.length by omega)
  unfold swP
  rw [h1, h2]
  simp only [List.append_assoc, List.cons_append]
theorem swP_a {X U Y V Z : List β} (h : U.length = V.length) {q : Nat} (hq : q < U.length) : (swP X U Y V Z q)[X.length + q]? = some U[q] := by
  rw [swP_form h hq]
  exact get_mid (by simp; omega)
theorem swP_b {X U Y V Z : List β} (h : U.length = V.length) {q : Nat} (hq : q < U.length) : (swP X U Y V Z q)[X.length + U.length + Y.length + q]? = some (V[q]'(by omega)) := by
  rw [swP_form h hq]
  exact get_far (by simp; omega)
theorem swP_succ {X U Y V Z : List β} (h : U.length = V.length) {q : Nat} (hq : q < U.length) : ((swP X U Y V Z q).set (X.length + q) (V[q]'(by omega))).set (X.length + U.length + Y.length + q) U[q] = swP X U Y V Z (q + 1) := by
  have h1 := List.take_succ_eq_append_getElem hq
  have h2 := List.take_succ_eq_append_getElem (show q < V.length by omega)
  rw [swP_form h hq, swap_far (by simp; omega) (by simp; omega)]
  unfold swP
  rw [h1, h2]
  simp only [List.append_assoc, List.cons_append, List.nil_append]
theorem split_at {A : List β} {n : Nat} (h : n ≤ A.length) : ∃ B C, A = B ++ C ∧ B.length = n := ⟨A.take n, A.drop n, (List.take_append_drop n A).symm, by rw [List.length_take]; omega⟩
end
section
variable {α : Type} {cf : α → α → Int}
theorem runs_cut {bs : Nat} {l : List (α × Nat)} (h : RunB cf bs l) (hl : bs < l.length) : ∃ A R, l = A ++ R ∧ A.length = bs ∧ A.Pairwise (SR cf) ∧ TagLt A R ∧ RunB cf bs R := by
  cases h with
  | last h1 _ => omega
  | cons h1 h2 h3 h4 =>
    rename_i A R
    exact ⟨A, R, rfl, h1, h2, h3, h4⟩
theorem runs_len {bs : Nat} {l : List (α × Nat)} (h : RunB cf bs l) (hl : l.length ≤ bs) : l.Pairwise (SR cf) := by
  cases h with
  | last _ h2 => exact h2
  | cons h1 h2 h3 h4 =>
    rename_i A R
    rw [List.length_append] at hl
    have : R = [] := List.eq_nil_of_length_eq_zero (by omega)
    rw [this, List.append_nil]
    exact h2
theorem TagLt.perm {A B A' B' : List (α × Nat)} (h : TagLt A B) (ha : A'.Perm A) (hb : B'.Perm B) : TagLt A' B' := h.sub (fun _ hx => ha.mem_iff.1 hx) (fun _ hx => hb.mem_iff.1 hx)
theorem TagLt.left {A B C : List (α × Nat)} (h : TagLt (A ++ B) C) : TagLt A C ∧ TagLt B C := ⟨h.sub (fun x hx => by simp [hx]) (fun _ h => h), h.sub (fun x hx => by simp [hx]) (fun _ h => h)⟩
theorem TagLt.right {A B C : List (α × Nat)} (h : TagLt A (B ++ C)) : TagLt A B ∧ TagLt A C := ⟨h.sub (fun _ h => h) (fun x hx => by simp [hx]), h.sub (fun _ h => h) (fun x hx => by simp [hx])⟩
theorem TagLt.app {A B C : List (α × Nat)} (h1 : TagLt A C) (h2 : TagLt B C) : TagLt (A ++ B) C := fun x hx y hy => by
  rcases List.mem_append.1 hx with h | h
  · exact h1 x h y hy
  · exact h2 x h y hy
/-- what stands ahead is merged into runs of bs' elements, what stands behind still lies in runs of bs -/
inductive Done (cf : α → α → Int) (bs : Nat) : List (α × Nat) → Prop
  | nil : Done cf bs []
  | snoc {D A : List (α × Nat)} : Done cf bs D → A.length = bs → A.Pairwise (SR cf) → TagLt D A → Done cf bs (D ++ A)
theorem runs_join {bs : Nat} : ∀ {D : List (α × Nat)}, Done cf bs D → ∀ {R : List (α × Nat)}, TagLt D R → RunB cf bs R → RunB cf bs (D ++ R) := by
  intro D h
  induction h with
  | nil => intro R _ hR; simpa using hR
  | snoc h1 h2 h3 h4 ih =>
    rename_i D A
    intro R ht hR
    rw [List.append_assoc]
    refine ih (fun x hx y hy => ?_) (.cons h2 h3 ht.left.2 hR)
    rcases List.mem_append.1 hy with h | h
    · exact h4 x hx y h
    · exact ht.left.1 x hx y h
/-- numbered from a on -/
def tagF (l : List α) (a : Nat) : List (α × Nat) := l.zipIdx a
theorem tagF_fst (l : List α) (a : Nat) : (tagF l a).map (·.1) = l := by simp [tagF]
theorem tagF_app (l r : List α) (a : Nat) : tagF (l ++ r) a = tagF l a ++ tagF r (a + l.length) := by unfold tagF; rw [List.zipIdx_append]
end
end Go.Proofs.YtbfomgchjlkopaaDoor
namespace Go.Proofs.YtbfomgchjlkopaaDoor
open Go.RowKit
section
variable {P : Program} {F : Frm} {d : Option Tmp} {ty : TypeId} {pos : String} {aft : Array Edge} {g : Option (Nat × Bool)} {ρ : Operand → AV} {hp : List Blk} {K : AV → List Blk → Prop}
theorem zMin {x y : Operand} {t t' : TypeId} {k k' : IntKind} {a b : Int} (h : K (.c (.lit (.int k (min a b)))) hp) (hx : ρ x = .c (.lit (.int k a)) := by exact rfl) (hy : ρ y = .c (.lit (.int k' b)) := by exact rfl) : LO P F ⟨d, .call { callee := .builtin .min, args := #[x, y], argTypes := #[t, t'] }, ty, pos, aft, g⟩ ρ hp K := by
  refine LO.same (fun M e w he hh => ?_) h
  have h1 := he x (by simp [Op.operands, Call.operands])
  have h2 := he y (by simp [Op.operands, Call.operands])
  rw [hx] at h1
  rw [hy] at h2
  simp only [RA, RT] at h1 h2
  refine ⟨.int k (min a b), ?_, by simp only [RA, RT]⟩
  simp [execOp, resolve, invoke, builtin, h1, h2, Go.Lib.run_min_ints]
end
end Go.Proofs.YtbfomgchjlkopaaDoor
namespace Go.Proofs.YtbfomgchjlkopaaDoor
open Go.RowKit
theorem HeapOk.take {F : Frm} {M : Mm} {hp : List Blk} {w : World} (h : HeapOk F M hp w) (k : Nat) : HeapOk F M (hp.take k) w := by
  have hg : ∀ (i : Nat) (x : Blk), (hp.take k)[i]? = some x → hp[i]? = some x := by
    intro i x hx
    rw [List.getElem?_take] at hx
    split at hx
    · exact hx
    · cases hx
  exact ⟨h.mem, h.ext, h.frm, fun i x hx => h.at_ i x (hg i x hx), fun i j x y b hx hy => h.sep i j x y b (hg i x hx) (hg j y hy), fun i x b hx => h.out i x b (hg i x hx)⟩
/-- the function, given values that read so and blocks of the caller's own, returns a value that reads so, the blocks turned -/
def AG (P : Program) (f : FuncId) (asq : List AV) (hs : List Blk) (R : AV → List Blk → Prop) : Prop :=
  Enters P f ∧ ∀ (F : Frm) (M : Mm) (w : World) (vs : List Value), HeapOk F M hs w → RAs M asq vs →
    Calls P f vs.toArray w fun e w' => ∃ v r hs' M', e = .returned v ∧ R r hs' ∧ Ext F.may M M' ∧ HeapOk F M' hs' w' ∧ RA M' r v
theorem AG.imp {P : Program} {f : FuncId} {asq : List AV} {hs : List Blk} {R R' : AV → List Blk → Prop} (h : AG P f asq hs R) (hi : ∀ r hs, R r hs → R' r hs) : AG P f asq hs R' :=
  ⟨h.1, fun F M w vs hM hv => (h.2 F M w vs hM hv).mono fun _ _ ⟨v, r, hs', M', h1, h2, h3⟩ => ⟨v, r, hs', M', h1, hi r hs' h2, h3⟩⟩
/-- the end of such a function: the first k blocks are handed back -/
structure FinG (L : Tab) (res : List ResultVar) (k : Nat) (R : AV → List Blk → Prop) (e : Exit) (σ : AS) : Prop where
  out : (e = .normal ∨ e = .ret) ∧ ∃ vs, OutsA L σ res vs ∧ R (outA vs) (σ.hp.take k)
section
variable {P : Program} {F : Frm} {L : Tab}
theorem ag_enter {f : FuncId} {fn : Func} {c : Code} {asq : List AV} {hs : List Blk} {R : AV → List Blk → Prop} {N : Nat} {res : List ResultVar} (k : Nat) (hL : TabOk P L) (hf : P.funcs[f]? = some fn) (hNt : fn.ntmps = N) (hres : fn.results = res.toArray) (hb : fn.body = some c) (hn : (fn.name == "runtime.NumGoroutine") = false) (hN : Nat.ble asq.length N = true)
    (h : ∀ F, AC P F c (FinG L res k R) ⟨initT N asq, hs, N⟩) : AG P f asq hs R := by
  refine ⟨⟨fn, hf, hn, by rw [hb]; rfl⟩, fun F M w vs hh hav => ?_⟩
  have hlen := hav.len
  have hNl := Nat.le_of_ble_eq_true hN
  refine calls_of_wp hf hb (wp_mono ((h ⟨F.w0, F.X, M, F.G, F.GX⟩).out M _ w ⟨?_, ?_, rfl, ⟨hh.mem, Ext.refl _ _, ⟨hh.frm.os, hh.frm.tape, hh.frm.output, hh.frm.size, hh.frm.block⟩, hh.at_, hh.sep, hh.out⟩⟩) ?_)
  · intro i
    simp only [initT]
    by_cases hi : i < asq.length
    · have : Nat.blt i N = true := Nat.ble_eq_true_of_le (by omega)
      rw [this, cond_true]
      have h1 : asq[i]? = some asq[i] := List.getElem?_eq_getElem hi
      obtain ⟨x, hx, hra⟩ := hav.get h1
      rw [List.getD_eq_getElem?_getD, h1]
      have h2 : i < vs.length := by omega
      have h3 : vs[i] = x := by rw [List.getElem?_eq_getElem h2] at hx; injection hx
      simp [Array.getD_eq_getD_getElem?, Array.getElem?_append, h2, h3]
      exact hra
    · have h1 : asq.getD i (.c (.lit undef)) = .c (.lit undef) := by
        rw [List.getD_eq_getElem?_getD, List.getElem?_eq_none (by omega)]; rfl
      rw [h1]
      have h2 : ¬ i < vs.length := by omega
      have h3 : (vs.toArray ++ Array.replicate (fn.ntmps - vs.toArray.size) undef).getD i undef = undef := by
        simp [Array.getD_eq_getD_getElem?, Array.getElem?_append, h2, Array.getElem?_replicate]
        split <;> rfl
      rw [h3]
      cases Nat.blt i N <;> simp only [cond_true, cond_false, RA, RT]
  · simp [hNt]; omega
  · rintro e' a' w' ⟨M', σ', ⟨⟨he', vs', ho, hK⟩⟩, hr⟩
    rw [show res = fn.results.toList by rw [hres]] at ho
    obtain ⟨u, hu', hRA⟩ := resultsA_sound hL hr ho
    have hx : Ext F.may M M' := hr.heap.ext
    have hh' : HeapOk F M' σ'.hp w' := ⟨hr.heap.mem, hh.ext.trans hx, ⟨hr.heap.frm.os, hr.heap.frm.tape, hr.heap.frm.output, hr.heap.frm.size, hr.heap.frm.block⟩, hr.heap.at_, hr.heap.sep, hr.heap.out⟩
    have hfin : a'.defers = [] ∧ ∃ v, (results fn a'.tmps).run P w' = .ok v w' ∧ ∃ v' r hs' M', Ending.returned v = .returned v' ∧ R r hs' ∧ Ext F.may M M' ∧ HeapOk F M' hs' w' ∧ RA M' r v' :=
      ⟨hr.defers, u, hu', u, outA vs', σ'.hp.take k, M', rfl, hK, hx, hh'.take k, hRA⟩
    rcases he' with rfl | rfl <;> exact hfin
end
def selB (hp : List Blk) : List Nat → Option (List Blk)
  | [] => some []
  | i :: is => match hp[i]?, selB hp is with | some x, some r => some (x :: r) | _, _ => none
def freshB : List Nat → Bool
  | [] => true
  | i :: is => !is.contains i && freshB is
def putB (hp : List Blk) : List Nat → List Blk → List Blk
  | [], hs => hp ++ hs
  | _ :: _, [] => hp
  | i :: is, x :: hs => (putB hp is hs).set i x
def posB (hp : List Blk) (sel : List Nat) (i : Nat) : Nat := match sel[i]? with | some j => j | none => hp.length + (i - sel.length)
theorem selB_get {hp : List Blk} : ∀ {sel : List Nat} {hs : List Blk}, selB hp sel = some hs → ∀ {i : Nat} {x : Blk}, hs[i]? = some x → ∃ j : Nat, sel[i]? = some j ∧ hp[j]? = some x
  | [], hs, h, i, x, hx => by simp only [selB, Option.some.injEq] at h; subst h; simp at hx
  | k :: is, hs, h, i, x, hx => by
    simp only [selB] at h
    cases h1 : hp[k]? with
    | none => rw [h1] at h; cases h
    | some y =>
      cases h2 : selB hp is with
      | none => rw [h1, h2] at h; cases h
      | some r =>
        rw [h1, h2] at h
        simp only [Option.some.injEq] at h
        subst h
        cases i with
        | zero => simp only [List.getElem?_cons_zero, Option.some.injEq] at hx; subst hx; exact ⟨k, rfl, h1⟩
        | succ i => obtain ⟨j, h3, h4⟩ := selB_get h2 (i := i) (by simpa using hx); exact ⟨j, by simpa using h3, h4⟩
theorem freshB_inj : ∀ {sel : List Nat}, freshB sel = true → ∀ {i i' j : Nat}, sel[i]? = some j → sel[i']? = some j → i = i'
  | [], _, i, i', j, h, _ => by simp at h
  | k :: is, hf, i, i', j, h, h' => by
    simp only [freshB, Bool.and_eq_true, Bool.not_eq_true', List.contains_eq_mem, decide_eq_false_iff_not] at hf
    cases i with
    | zero =>
      simp only [List.getElem?_cons_zero, Option.some.injEq] at h
      cases i' with
      | zero => rfl
      | succ i' => simp only [List.getElem?_cons_succ] at h'; exact absurd (h ▸ List.mem_of_getElem? h') hf.1
    | succ i =>
      simp only [List.getElem?_cons_succ] at h
      cases i' with
      | zero => simp only [List.getElem?_cons_zero, Option.some.injEq] at h'; exact absurd (h' ▸ List.mem_of_getElem? h) hf.1
      | succ i' => simp only [List.getElem?_cons_succ] at h'; rw [freshB_inj hf.2 h h']
theorem putB_get {hp : List Blk} : ∀ {sel : List Nat} {hs : List Blk}, sel.length ≤ hs.length → ∀ {j : Nat} {x : Blk}, (putB hp sel hs)[j]? = some x → (∃ i, j = posB hp sel i ∧ hs[i]? = some x) ∨ (hp[j]? = some x ∧ j ∉ sel)
  | [], hs, _, j, x, h => by
    simp only [putB] at h
    rcases Nat.lt_or_ge j hp.length with hj | hj
    · rw [List.getElem?_append_left hj] at h
      exact .inr ⟨h, by simp⟩
    · rw [List.getElem?_append_right hj] at h
      exact .inl ⟨j - hp.length, by simp only [posB, List.getElem?_nil, List.length_nil]; omega, h⟩
  | k :: is, [], hl, _, _, _ => by simp at hl
  | k :: is, y :: hs, hl, j, x, h => by
    simp only [putB, List.getElem?_set] at h
    split at h
    · rename_i hkj
      subst hkj
      split at h
      · exact .inl ⟨0, rfl, by simpa using h⟩
      · cases h
    · rename_i hkj
      rcases putB_get (by simpa using hl) h with ⟨i, h1, h2⟩ | ⟨h1, h2⟩
      · refine .inl ⟨i + 1, ?_, by simpa using h2⟩
        rw [h1]
        simp only [posB, List.getElem?_cons_succ, List.length_cons]
        split <;> omega
      · exact .inr ⟨h1, by simp [h2, Ne.symm hkj]⟩
theorem sub_gx {F : Frm} {M : Mm} {hp hs : List Blk} {w : World} {sel : List Nat} (h : HeapOk F M hp w) (hs' : selB hp sel = some hs) : ∀ x ∈ globTab, ¬ ∃ (i : Nat) (y : Blk), hs[i]? = some y ∧ y.blk = some x.1 := by
  rintro x hx ⟨i, y, h1, h2⟩
  obtain ⟨j, _, h3⟩ := selB_get hs' h1
  have hl := glob_lt F.G hx
  rcases (h.out j y x.1 h3 h2).1 with h4 | h4
  · exact F.GX x hx h4
  · omega
def subF (M : Mm) (hs : List Blk) (w : World) (hG : Glob w) (hX : ∀ x ∈ globTab, ¬ ∃ (i : Nat) (y : Blk), hs[i]? = some y ∧ y.blk = some x.1) : Frm := ⟨w, fun b => ∃ (i : Nat) (x : Blk), hs[i]? = some x ∧ x.blk = some b, M, hG, hX⟩
theorem heap_sel {F : Frm} {M : Mm} {hp hs : List Blk} {w : World} {sel : List Nat} (h : HeapOk F M hp w) (hs' : selB hp sel = some hs) (hf : freshB sel = true) : HeapOk (subF M hs w h.glob (sub_gx h hs')) M hs w := by
  refine ⟨h.mem, Ext.refl _ _, ⟨rfl, rfl, rfl, Nat.le_refl _, fun _ _ _ => rfl⟩, fun i x hx => ?_, fun i j x y b hx hy hxb hyb => ?_, fun i x b hx hxb => ?_⟩
  · obtain ⟨j, _, h2⟩ := selB_get hs' hx
    exact h.at_ j x h2
  · obtain ⟨k, h1, h2⟩ := selB_get hs' hx
    obtain ⟨k', h3, h4⟩ := selB_get hs' hy
    have := h.sep k k' x y b h2 h4 hxb hyb
    subst this
    exact freshB_inj hf h1 h3
  · obtain ⟨j, _, h2⟩ := selB_get hs' hx
    exact ⟨.inl ⟨i, x, hx, hxb⟩, (h.out j x b h2 hxb).2⟩
theorem sub_may {F : Frm} {M : Mm} {hp hs : List Blk} {w : World} {sel : List Nat} (h : HeapOk F M hp w) (hs' : selB hp sel = some hs) (b : Nat) (hb : (subF M hs w h.glob (sub_gx h hs')).may b) : F.may b := by
  rcases hb with ⟨i, x, hx, hxb⟩ | hb
  · obtain ⟨j, _, h2⟩ := selB_get hs' hx
    exact (h.out j x b h2 hxb).1
  · exact .inr (Nat.le_trans h.frm.size hb)
theorem heap_put {F : Frm} {M M' : Mm} {hp hs hs2 : List Blk} {w w' : World} {sel : List Nat} (h : HeapOk F M hp w) (hsl : selB hp sel = some hs) (hl : sel.length ≤ hs2.length) (h2 : HeapOk (subF M hs w h.glob (sub_gx h hsl)) M' hs2 w') : HeapOk F M' (putB hp sel hs2) w' := by
  have hM : Ext (subF M hs w h.glob (sub_gx h hsl)).may M M' := h2.ext
  have hX : ∀ b, (subF M hs w h.glob (sub_gx h hsl)).X b → ∃ (j : Nat) (x : Blk), j ∈ sel ∧ hp[j]? = some x ∧ x.blk = some b := by
    rintro b ⟨i, x, hx, hb⟩
    obtain ⟨j, h3, h4⟩ := selB_get hsl hx
    exact ⟨j, x, List.mem_of_getElem? h3, h4, hb⟩
  have hold : ∀ (j : Nat) (x : Blk) (b : Nat), hp[j]? = some x → j ∉ sel → x.blk = some b → b < w.heap.size ∧ ¬ (subF M hs w h.glob (sub_gx h hsl)).X b := by
    intro j x b hx hj hb
    refine ⟨(h.at_ j x hx).lt hb, fun hXb => ?_⟩
    obtain ⟨k, y, hk, hy, hyb⟩ := hX b hXb
    have := h.sep j k x y b hx hy hb hyb
    subst this
    exact hj hk
  refine ⟨h2.mem, h.ext.trans (hM.to (sub_may h hsl)), ⟨h2.frm.os.trans h.frm.os, h2.frm.tape.trans h.frm.tape, h2.frm.output.trans h.frm.output, Nat.le_trans h.frm.size h2.frm.size, fun b hb hnX => ?_⟩, fun j x hx => ?_, fun j k x y b hx hy hxb hyb => ?_, fun j x b hx hxb => ?_⟩
  · refine (h2.frm.block b (Nat.lt_of_lt_of_le hb h.frm.size) fun hXb => ?_).trans (h.frm.block b hb hnX)
    obtain ⟨k, y, _, hy, hyb⟩ := hX b hXb
    rcases (h.out k y b hy hyb).1 with h3 | h3
    · exact hnX h3
    · omega
  · rcases putB_get hl hx with ⟨i, _, hi⟩ | ⟨hj, hns⟩
    · exact h2.at_ i x hi
    · exact (h.at_ j x hj).keep hM.sub fun b hb hlt => h2.frm.block b hlt (hold j x b hj hns hb).2
  · rcases putB_get hl hx with ⟨i, hji, hi⟩ | ⟨hj, hns⟩
    · rcases putB_get hl hy with ⟨i', hji', hi'⟩ | ⟨hk, hns'⟩
      · rw [hji, hji', h2.sep i i' x y b hi hi' hxb hyb]
      · obtain ⟨h3, h4⟩ := hold k y b hk hns' hyb
        rcases (h2.out i x b hi hxb).1 with h5 | h5
        · exact absurd h5 h4
        · have : w.heap.size ≤ b := h5
          omega
    · rcases putB_get hl hy with ⟨i', hji', hi'⟩ | ⟨hk, hns'⟩
      · obtain ⟨h3, h4⟩ := hold j x b hj hns hxb
        rcases (h2.out i' y b hi' hyb).1 with h5 | h5
        · exact absurd h5 h4
        · have : w.heap.size ≤ b := h5
          omega
      · exact h.sep j k x y b hj hk hxb hyb
  · rcases putB_get hl hx with ⟨i, hji, hi⟩ | ⟨hj, hns⟩
    · obtain ⟨h3, h4⟩ := h2.out i x b hi hxb
      refine ⟨?_, h4⟩
      rcases h3 with h5 | h5
      · obtain ⟨k, y, _, hy, hyb⟩ := hX b h5
        exact (h.out k y b hy hyb).1
      · exact .inr (Nat.le_trans h.frm.size h5)
    · obtain ⟨h3, h4⟩ := h.out j x b hj hxb
      refine ⟨h3, fun p hp' => ?_⟩
      have hlt := hold j x b hj hns hxb
      cases hc : M' p with
      | none => rfl
      | some v =>
        rcases hM.2 p v hc with h5 | h5
        · rw [h4 p hp'] at h5; cases h5
        · rcases h5 with h6 | h6
          · exact absurd (hp' ▸ h6) hlt.2
          · have h7 : w.heap.size ≤ p.block := h6
            omega
def Re (a b : AV) : Prop := ∀ M u, RA M a u → RA M b u
def Res (asq bs : List AV) : Prop := ∀ M us, RAs M asq us → RAs M bs us
theorem re_refl {a : AV} : Re a a := fun _ _ h => h
theorem re_own {i j : Nat} {v : Value} : Re (.own i v) (.own j v) := fun M u h => by simp only [RA] at h ⊢; exact h
theorem re_ptr {i j b off : Nat} : Re (.ptr i b off) (.ptr j b off) := fun M u h => by simp only [RA] at h ⊢; exact h
theorem re_cls {a : AV} {t : T} (hz : Rzs [] [a] [t]) : Re a (.c t) := fun M u h => by
  have h1 : RAs M [a] [u] := by simp only [RAs]; exact ⟨u, [], rfl, h, rfl⟩
  have h2 := cls_sound _ _ _ hz h1
  simp only [RTs] at h2
  obtain ⟨x, r, e, h3, _⟩ := h2
  injection e with e _
  subst e
  simpa only [RA] using h3
theorem res_nil : Res [] [] := fun _ _ h => h
theorem res_cons {a b : AV} {asq bs : List AV} (h : Re a b) (h' : Res asq bs) : Res (a :: asq) (b :: bs) := fun M us hu => by
  simp only [RAs] at hu ⊢
  obtain ⟨x, r, e, h1, h2⟩ := hu
  exact ⟨x, r, e, h M x h1, h' M r h2⟩
section
variable {P : Program} {F : Frm} {d : Option Tmp} {ty : TypeId} {pos : String} {aft : Array Edge} {g : Option (Nat × Bool)} {ρ : Operand → AV} {hp : List Blk} {K : AV → List Blk → Prop}
theorem lo_callG {f : FuncId} {y : Operand} {xs : List Operand} {ats : Array TypeId} {asq cap : List AV} {hs : List Blk} {R : AV → List Blk → Prop} (sel : List Nat) (hc : AG P f asq hs R) (hy : ∀ M u, RA M (ρ y) u → ∃ cs : List Value, u = .func (.func f) #[] cs.toArray ∧ RAs M cap cs) (hx : Res (xs.map ρ ++ cap) asq) (hsl : selB hp sel = some hs) (hf : freshB sel = true)
    (h : ∀ r hs2, R r hs2 → ∃ r', Re r r' ∧ sel.length ≤ hs2.length ∧ K r' (putB hp sel hs2)) : LO P F ⟨d, .call { callee := .value y, args := xs.toArray, argTypes := ats }, ty, pos, aft, g⟩ ρ hp K := by
  refine ⟨fun M e w he hh => ?_⟩
  obtain ⟨hE, hcall⟩ := hc
  have h1 := he y (by simp [Op.operands, Call.operands])
  obtain ⟨cs, hu, hcs⟩ := hy M _ h1
  rw [run_call hE hu]
  have hav := (ev_all xs (fun x hx => he x (by simp [Op.operands, Call.operands, hx]))).app hcs
  refine (hcall (subF M hs w hh.glob (sub_gx hh hsl)) M w _ (heap_sel hh hsl hf) (hx M _ hav)).mono ?_
  rintro e' w' ⟨v, r, hs2, M', rfl, hR, hM, hh2, hr⟩
  obtain ⟨r', hre, hl, hK⟩ := h r hs2 hR
  exact ⟨v, rfl, M', r', _, hK, hM.to (sub_may hh hsl), heap_put hh hsl hl hh2, hre M' v hr⟩
end
end Go.Proofs.YtbfomgchjlkopaaDoor
namespace Go.Proofs.YtbfomgchjlkopaaDoor
open Go.RowKit Go.Lib
section
variable {P : Program} {F : Frm} {L : Tab} {d : Option Tmp} {ty : TypeId} {pos : String} {aft : Array Edge} {g : Option (Nat × Bool)} {ρ : Operand → AV} {hp : List Blk} {K : AV → List Blk → Prop}
variable {t t' u e : TypeId} {x y : Operand} {k k' : IntKind} {a b : Int}
theorem lo_shr {n : Int} (hx : ρ x = .c (.lit (.int k a))) (hy : ρ y = .c (.lit (.int k' n))) (h0 : 0 ≤ n) {r : Int} (hr : a.fdiv (2 ^ (min n.toNat k.bits)) = r) (h : K (.c (.lit (.int k r))) hp) : LO P F ⟨d, .binOp .shr t x y t', ty, pos, aft, g⟩ ρ hp K :=
  lo_bin hx hy guard_int (fun w => by simp only [binOp, Op.shift, if_neg (Int.not_lt.2 h0), hr, Sem.run_pure]) h
end
end Go.Proofs.YtbfomgchjlkopaaDoor
namespace Go.Proofs.YtbfomgchjlkopaaDoor
open Go.RowKit
section
variable {L : Tab} {σ : AS}
theorem outsA_nil : OutsA L σ [] [] := by simp only [OutsA]
theorem outsA_cons {r : ResultVar} {rs : List ResultVar} {v : AV} {vs : List AV} (h : OutA L σ r v) (h' : OutsA L σ rs vs) : OutsA L σ (r :: rs) (v :: vs) := by simp only [OutsA]; exact ⟨v, vs, rfl, h, h'⟩
theorem outA_tmp {i : Nat} {v : AV} (h : fc (σ.tmps i) = some v) : OutA L σ (.tmp i) v := by simp only [OutA]; exact fc_eq h
theorem outA_agg {a ty i b off : Nat} {tb : TypeId} {cs l : List AV} {ti : TI} (h1 : σ.tmps a = .ptr i b off) (h2 : σ.hp[i]? = some (.box b tb cs)) (h3 : L.look ty = some ti) (h4 : ti.agg = true) (h5 : Nat.ble (off + ti.size) cs.length = true) (h6 : evl ((cs.drop off).take ti.size) = some l) : OutA L σ (.cell a ty) (.agg l) := by
  simp only [OutA]
  refine ⟨i, b, off, tb, cs, ti, h1, h2, h3, ?_⟩
  rw [h4]
  exact ⟨Nat.le_of_ble_eq_true h5, by rw [evl_eq h6]⟩
theorem outA_one {a ty i b off : Nat} {tb : TypeId} {cs : List AV} {v : AV} {ti : TI} (h1 : σ.tmps a = .ptr i b off) (h2 : σ.hp[i]? = some (.box b tb cs)) (h3 : L.look ty = some ti) (h4 : ti.agg = false) (h5 : cs[off]? = some v) : OutA L σ (.cell a ty) v := by
  simp only [OutA]
  refine ⟨i, b, off, tb, cs, ti, h1, h2, h3, ?_⟩
  rw [h4]
  exact h5
theorem zG {res : List ResultVar} {k : Nat} {R : AV → List Blk → Prop} {e : Exit} {vs : List AV} {hq : List Blk} (h : R (outA vs) hq) (he : e = .normal ∨ e = .ret := by first | exact .inl rfl | exact .inr rfl)
    (ho : OutsA L σ res vs := by repeat (first | exact outsA_nil | apply outsA_cons | (apply outA_tmp; (focus exact rfl)) | (apply outA_agg; (focus exact rfl); (focus exact rfl); (focus exact rfl); (focus exact rfl); (focus exact rfl); (focus exact rfl)) | (apply outA_one; (focus exact rfl); (focus exact rfl); (focus exact rfl); (focus exact rfl); (focus exact rfl))))
    (hh : evl (σ.hp.take k) = some hq := by exact rfl) : FinG L res k R e σ := ⟨he, vs, ho, by rw [← evl_eq hh]; exact h⟩
end
section
variable {P : Program} {F : Frm} {L : Tab} {d : Option Tmp} {ty : TypeId} {pos : String} {aft : Array Edge} {g : Option (Nat × Bool)} {ρ : Operand → AV} {hp : List Blk} {K : AV → List Blk → Prop}
theorem zCallG {f : FuncId} {y : Operand} {xs : List Operand} {ats : Array TypeId} {asq cap : List AV} {hs : List Blk} {R : AV → List Blk → Prop} (sel : List Nat) (hc : AG P f asq hs R)
    (h : ∀ r hs2, R r hs2 → ∃ r' hp', Re r r' ∧ Nat.ble sel.length hs2.length = true ∧ evl (putB hp sel hs2) = some hp' ∧ K r' hp') (hy : ρ y = .fn (.func f) cap := by exact rfl)
    (hx : Res (xs.map ρ ++ cap) asq := by repeat (first | exact res_nil | apply res_cons | exact re_own | exact re_ptr | exact re_refl | apply re_cls | exact rzs_nil | apply rzs_cons | exact rz_c | exact rz_nil rfl | apply rz_agg | apply rz_fn | apply rz_tup)) (hsl : selB hp sel = some hs := by exact rfl) (hf : freshB sel = true := by exact rfl) :
    LO P F ⟨d, .call { callee := .value y, args := xs.toArray, argTypes := ats }, ty, pos, aft, g⟩ ρ hp K :=
  lo_callG sel hc (fun M u hu => by rw [hy] at hu; simpa only [RA] using hu) hx hsl hf fun r hs2 hR => by
    obtain ⟨r', hp', h1, h2, h3, h4⟩ := h r hs2 hR
    exact ⟨r', h1, Nat.le_of_ble_eq_true h2, by rw [← evl_eq h3]; exact h4⟩
variable {t u e : TypeId} {x y : Operand} {ti tu te : TI} {cs : List T} {n i : Nat} {v : Value} {e' : TypeId}
end
end Go.Proofs.YtbfomgchjlkopaaDoor
namespace Go.Proofs.YtbfomgchjlkopaaDoor
open Go.RowKit
def bs (l : List UInt8) : ByteArray := ⟨l.toArray⟩
theorem bs_size' (l : List UInt8) : (bs l).size = l.length := by simp [bs, ByteArray.size]
section
variable {P : Program} {F : Frm} {L : Tab} {d : Option Tmp} {ty : TypeId} {pos : String} {aft : Array Edge} {g : Option (Nat × Bool)} {ρ : Operand → AV} {hp : List Blk} {K : AV → List Blk → Prop}
theorem zBo {t el : TypeId} {ti te : TI} {n k : Nat} {parts : List (Nat × Operand)} {cs cs' : List AV} {ts : List T} {hp' : Value → List Blk} (h : ∀ v, K (.own k v) (hp' v)) (hL : TabOk P L := by exact tok) (ht : L.look t = some ti := by exact rfl) (hd : ti.d = .slice el := by exact rfl) (hte : L.look el = some te := by exact rfl) (h0 : Nat.ble 1 te.size = true := by exact rfl) (hn : Nat.ble (n * te.size) 16777216 = true := by exact rfl)
    (hf : fillA (fun i => some (i * te.size, te.size)) ((List.range (n * te.size)).map fun j => .c (.lit (te.zero.getD (j % te.size) undef))) (parts.map fun p => (p.1, ρ p.2)) = some cs := by exact rfl) (he : evl cs = some cs' := by exact rfl) (hz : Rzs [] cs' ts := by repeat (first | exact rzs_nil | apply rzs_cons | exact rz_c | exact rz_nil rfl | apply rz_agg | exact rz_own rfl | apply rz_fn | exact rz_ptr rfl | apply rz_tup)) (hk : lenU hp = some k := by exact rfl) (hq : ∀ v, evl (hp ++ [.row v el te.size n ts]) = some (hp' v) := by exact fun _ => rfl) :
    LO P F ⟨d, .buildSlice t n parts.toArray, ty, pos, aft, g⟩ ρ hp K := v_bslice_own hL ht hd hte h0 hn hf he hz hk hq h
end
end Go.Proofs.YtbfomgchjlkopaaDoor
namespace Go.Proofs.YtbfomgchjlkopaaDoor
open Go.RowKit
inductive Pl where
  | fin (r : List Nat)
  | fork (p : List Nat) (i : Nat) (a : Pl) (j : Nat) (b : Pl)
def Pl.n : Pl → Nat
  | .fin r => r.length
  | .fork p _ a _ _ => a.n + 1 + p.length
end Go.Proofs.YtbfomgchjlkopaaDoor
namespace Go.Proofs.YtbfomgchjlkopaaDoor
open Go.RowKit
theorem guard_slice {P : Program} {op : BinOp} {t : TypeId} {x y : Operand} {a b : Option Addr} {n c n' c' : Nat} (w : World) : (eqGuard op t x y (.slice a n c) (.slice b n' c')).run P w = .ok () w := by
  unfold eqGuard; simp
theorem run_nilS {P : Program} {t e : TypeId} (h : P.underlying t = some (.slice e)) (a : Option Addr) (n c : Nat) (w : World) : (Op.equal t (.slice a n c) (.slice none 0 0)).run P w = .ok a.isNone w := by
  rw [Op.equal, show Op.maxDepth = 9999 + 1 from rfl, Op.equalIn]
  simp only [Sem.run_bind, run_underlying h, Result.andThen_ok]
  cases a <;> rfl
section
variable {P : Program} {F : Frm} {L : Tab} {d : Option Tmp} {ty : TypeId} {pos : String} {aft : Array Edge} {g : Option (Nat × Bool)} {ρ : Operand → AV} {hp : List Blk} {K : AV → List Blk → Prop}
theorem zNs {t t' el : TypeId} {ti : TI} {x y : Operand} {n sz : Nat} {cs : List T} (h : ∀ b : Bool, (b = true → n = 0) → K (.c (.lit (.bool b))) hp) (hL : TabOk P L := by exact tok) (hx : ρ x = .c (.row n sz cs) := by exact rfl) (hy : ρ y = .c (.lit (.slice none 0 0)) := by exact rfl) (ht : L.look t = some ti := by exact rfl) (hd : ti.d = .slice el := by exact rfl) : LO P F ⟨d, .binOp .eql t x y t', ty, pos, aft, g⟩ ρ hp K := by
  refine ⟨fun M e w he hh => ?_⟩
  have h1 := he x (by first | (simp [Op.operands]; done) | simp [Op.operands, Call.operands])
  rw [hx] at h1
  have h2 := he y (by first | (simp [Op.operands]; done) | simp [Op.operands, Call.operands])
  rw [hy] at h2
  simp only [RA, RT] at h1 h2
  obtain ⟨A, c, xs, hu, hc, hn, h0, hl, hat, hrt⟩ := h1
  have hr : (execOp e ⟨d, .binOp .eql t x y t', ty, pos, aft, g⟩).run P w = .ok (.value (.bool A.isNone)) w := by
    simp [execOp, hu, h2, guard_slice, binOp, run_nilS (hL.slice ht hd)]
  rw [hr]
  refine ⟨M, _, hp, h A.isNone fun hb => ?_, Ext.refl _ _, hh, by simp only [RA, RT]⟩
  rcases Nat.eq_zero_or_pos n with h3 | h3
  · exact h3
  · obtain ⟨ad, rfl, _⟩ := hat h3
    cases hb
end
end Go.Proofs.YtbfomgchjlkopaaDoor
