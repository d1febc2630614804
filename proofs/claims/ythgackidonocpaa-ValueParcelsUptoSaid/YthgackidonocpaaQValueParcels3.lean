/-
  Texts of this proof, part 3: Tvf0 Tvf Twb Trv Trv2 Ttv Ttl TlwA Tsv Tsd Tsw Tsf Tsr Tst Tqd Tlf.
-/
import Derived.Test.YthgackidonocpaaQValueParcels2
import Derived.MapKept
namespace Go.Proofs.Ythgackidonocpaa
open Go.RowKit
abbrev Vd := V × Nat
def atTs (x : Vd) : List T := x.1.ts ++ [.lit (.int .i64 (x.2 : Int))]
theorem atTs_len (x : Vd) : (atTs x).length = 5 := by simp [atTs, V.ts_len]
def kids (x : Vd) : List Vd := x.1.args.map fun a => (a, x.2 + 1)
def vsz (l : List Vd) : Nat := V.sizes (l.map (·.1))
theorem vsz_app (l r : List Vd) : vsz (l ++ r) = vsz l + vsz r := by simp [vsz, V.sizes_app]
theorem vsz_kids (x : Vd) : vsz (kids x) + 1 = x.1.size := by
  obtain ⟨⟨k, n, t, l⟩, d⟩ := x
  simp [vsz, kids, V.args, V.size, Function.comp_def]
theorem vsz_len (l : List Vd) : l.length ≤ vsz l := by
  have := V.len_sizes (l.map (·.1))
  simpa [vsz] using this
/-- the first i of the list are done, the rest stand for what is below them too -/
structure Lev (v : V) (all : List Vd) (i : Nat) : Prop where
  le : i ≤ all.length
  size : i + vsz (all.drop i) = v.size
  deep : ∀ x ∈ all, x.2 ≤ all.length
  sub : ∀ x ∈ all, x.1.size ≤ v.size
  every : ∀ p : V → Nat → Bool, ((all.take i).all (fun x => p x.1 x.2) && (all.drop i).all (fun x => x.1.every p x.2)) = v.every p 1
theorem Lev.zero (v : V) : Lev v [(v, 1)] 0 := ⟨by simp, by simp [vsz, V.sizes], by simp, by simp, fun p => by simp⟩
theorem Lev.step {v : V} {all : List Vd} {i : Nat} {x : Vd} (h : Lev v all i) (hx : all[i]? = some x) : Lev v (all ++ kids x) (i + 1) := by
  obtain ⟨hi, rfl⟩ := List.getElem?_eq_some_iff.1 hx
  have hd := List.drop_eq_getElem_cons hi
  have hdrop : (all ++ kids all[i]).drop (i + 1) = all.drop (i + 1) ++ kids all[i] := by rw [List.drop_append_of_le_length (by omega)]
  have htake : (all ++ kids all[i]).take (i + 1) = all.take i ++ [all[i]] := by rw [List.take_append_of_le_length (by omega), List.take_succ_eq_append_getElem hi]
  refine ⟨by simp; omega, ?_, ?_, ?_, fun p => ?_⟩
  · have h1 := h.size
    have h2 := vsz_kids all[i]
    rw [hd] at h1
    rw [hdrop, vsz_app]
    have h3 : vsz (all[i] :: all.drop (i + 1)) = all[i].1.size + vsz (all.drop (i + 1)) := by simp only [vsz, List.map_cons, V.sizes]
    omega
  · intro y hy
    rcases List.mem_append.1 hy with hy | hy
    · have := h.deep y hy; simp; omega
    · simp only [kids, List.mem_map] at hy
      obtain ⟨a, ha, rfl⟩ := hy
      have h1 := h.deep all[i] (List.getElem_mem hi)
      have h2 : 0 < all[i].1.args.length := List.length_pos_of_mem ha
      simp [kids]; omega
  · intro y hy
    rcases List.mem_append.1 hy with hy | hy
    · exact h.sub y hy
    · simp only [kids, List.mem_map] at hy
      obtain ⟨a, ha, rfl⟩ := hy
      have h1 := h.sub all[i] (List.getElem_mem hi)
      have h2 : a.size ≤ all[i].1.size := by
        generalize all[i] = z at ha h1 ⊢
        obtain ⟨⟨k, n, t, l⟩, d⟩ := z
        have := V.size_mem ha
        simp only [V.args] at this
        simp only [V.size]
        omega
      exact Nat.le_trans h2 h1
  · rw [← h.every p, hdrop, htake, hd]
    have h4 : all[i].1.every p all[i].2 = (p all[i].1 all[i].2 && (kids all[i]).all fun x => x.1.every p x.2) := by
      generalize all[i] = z
      obtain ⟨⟨k, n, t, l⟩, d⟩ := z
      simp only [V.every, V.everys_eq, kids, V.args, List.all_map]
      rfl
    simp only [List.all_append, List.all_cons, List.all_nil, Bool.and_true, h4]
    cases (all.take i).all fun x => p x.1 x.2 <;> cases p all[i].1 all[i].2 <;> cases (all.drop (i + 1)).all fun x => x.1.every p x.2 <;> cases (kids all[i]).all fun x => x.1.every p x.2 <;> rfl
theorem Lev.len {v : V} {all : List Vd} {i : Nat} (h : Lev v all i) : all.length ≤ v.size := by
  have h1 := h.size
  have h2 := vsz_len (all.drop i)
  rw [List.length_drop] at h2
  have := h.le
  omega
theorem Lev.done {v : V} {all : List Vd} (h : Lev v all all.length) : all.length = v.size ∧ ∀ p : V → Nat → Bool, (all.all fun x => p x.1 x.2) = v.every p 1 := by
  refine ⟨?_, fun p => ?_⟩
  · have := h.size
    rw [List.drop_length] at this
    simpa [vsz, V.sizes] using this
  · have := h.every p
    rw [List.drop_length, List.take_length] at this
    simpa using this
theorem byt_at {l : List UInt8} {k : Nat} {a : UInt8} (h : l[k]? = some a) : (byts l)[k * 1]? = some (bytT a) := by simp [byts, h]
theorem u8_eq (a b : UInt8) : decide ((a.toNat : Int) = (b.toNat : Int)) = decide (a = b) := by
  by_cases h : a = b
  · simp [h]
  · rw [decide_eq_false h, decide_eq_false]
    intro e
    exact h (UInt8.toNat_inj.1 (by omega))
set_option maxRecDepth 100000 in
set_option maxHeartbeats 1000000 in
theorem indexB_af (c : UInt8) (l : List UInt8) : AF Try.prog 159 [bytRow l, bytT c] (· = .lit (.int .i64 (idxI (fun b => decide (c = b)) l))) := by
  refine af_enter tok Try.func159 Try.ntmps159 Try.results159 rfl (by kernel_rfl) rfl rfl fun F hX => ?_
  repeat (first | refine gG ?_ | refine zN1 (fun hlen => ?_) | refine zN2 (fun hlen => ?_))
  refine x_loop [4, 5, 8, 9, 10, 11, 12, 13, 14, 15, 16, 17, 18] (fun k : Nat => [(8, .c (.lit (.int .i64 k)))]) (fun _ => []) (fun k => k ≤ l.length ∧ idxAt (fun b => decide (c = b)) l k) (fun k => l.length - k) 0 ⟨Nat.zero_le _, idxAt_zero _ l⟩ ⟨rfl, trivial⟩ rfl fun k hk => ?_
  repeat (first | refine gG ?_ | refine zN1 (fun hlen => ?_) | refine zN2 (fun hlen => ?_))
  refine x_cond rfl (fun h => ?_) (fun h => ?_)
  · have hk' : k < l.length := by simpa using h
    obtain ⟨a, ha⟩ := nth hk'
    repeat (first | refine gG ?_ | refine zN1 (fun hlen => ?_) | refine zN2 (fun hlen => ?_))
    refine zIx k hk' ?_
    repeat (first | refine gG ?_ | refine zN1 (fun hlen => ?_) | refine zN2 (fun hlen => ?_))
    refine zEl1 (byt_at ha) ?_
    cases hq : decide (c = a)
    · have hq' : decide ((c.toNat : Int) = (a.toNat : Int)) = false := by rw [u8_eq]; exact hq
      repeat (first | refine gG ?_ | refine zN1 (fun hlen => ?_) | refine zN2 (fun hlen => ?_))
      exact ⟨k + 1, ⟨hk', idxAt_no hk.2 ha hq⟩, by omega, x_wkd 0 ⟨rfl, trivial⟩ rfl (by repeat (first | exact ag_refl | refine ag_upd rfl ?_ | refine ag_at rfl rfl ?_))⟩
    · have hq' : decide ((c.toNat : Int) = (a.toNat : Int)) = true := by rw [u8_eq]; exact hq
      repeat (first | refine gG ?_ | refine zN1 (fun hlen => ?_) | refine zN2 (fun hlen => ?_))
      first | refine zR ?_ | refine zQ ?_
      rw [idxAt_yes hk.2 ha hq]; rfl
  · have hk' : k = l.length := by have : ¬ k < l.length := by simpa using h
                                  omega
    subst hk'
    repeat (first | refine gG ?_ | refine zN1 (fun hlen => ?_) | refine zN2 (fun hlen => ?_))
    first | refine zR ?_ | refine zQ ?_
    rw [idxAt_end hk.2]; rfl
set_option maxRecDepth 100000 in
set_option maxHeartbeats 1000000 in
theorem containsB_af (c : UInt8) (l : List UInt8) : AF Try.prog 78 [bytRow l, bytT c] (· = .lit (.bool (l.any fun b => decide (c = b)))) := by
  have hc := indexB_af c l
  refine af_enter tok Try.func78 Try.ntmps78 Try.results78 rfl (by kernel_rfl) rfl rfl fun F hX => ?_
  repeat (first | refine gG ?_)
  refine zCall (hc) ?_
  rintro _ rfl
  repeat (first | refine gG ?_)
  first | refine zR ?_ | refine zQ ?_
  rw [← idxI_any]; rfl
/-- a node whose parts are asq the list of its kind says -/
def okB (n : Int) (t : ByteArray) (m : Nat) (has : ByteArray) (most : Int) : Bool :=
  !((!decide (n = 0)) && !(has.data.toList.any fun b => decide ((110 : UInt8) = b))) && !((!decide (t = ⟨#[]⟩)) && !(has.data.toList.any fun b => decide ((116 : UInt8) = b))) && !decide (most < (m : Int))
theorem len0 (l : List V) : (!decide ((0 : Int) < (l.length : Int))) = decide ((l.length : Int) = 0) := by
  by_cases h : (l.length : Int) = 0
  · rw [decide_eq_true h, h]; rfl
  · rw [decide_eq_false h, decide_eq_true (by omega)]; rfl
theorem len1 (l : List V) : (!decide ((1 : Int) < (l.length : Int))) = decide ((l.length : Int) ≤ 1) := by
  by_cases h : (l.length : Int) ≤ 1
  · rw [decide_eq_true h, decide_eq_false (by omega)]; rfl
  · rw [decide_eq_false h, decide_eq_true (by omega)]; rfl
theorem len400 (l : List V) (h : l.length ≤ 400) : (!decide ((400 : Int) < (l.length : Int))) = true := by
  rw [decide_eq_false (by omega)]; rfl
theorem okB_eq (n : Int) (t : ByteArray) (m : Nat) (has : ByteArray) (most : Int) (c1 c2 : Bool) (h1 : (has.data.toList.any fun b => decide ((110 : UInt8) = b)) = c1) (h2 : (has.data.toList.any fun b => decide ((116 : UInt8) = b)) = c2) : okB n t m has most = ((decide (n = 0) || c1) && (decide (t = ⟨#[]⟩) || c2) && !decide (most < (m : Int))) := by
  unfold okB
  rw [h1, h2]
  cases decide (n = 0) <;> cases decide (t = ⟨#[]⟩) <;> cases c1 <;> cases c2 <;> rfl
section
variable (n : Int) (t : ByteArray) (l : List V)
theorem ok1 : okB n t l.length ⟨#[]⟩ 0 = formN (.mk 1 n t l) := by rw [okB_eq _ _ _ _ _ false false (by decide) (by decide), len0]; simp [formN]
theorem ok2 : okB n t l.length ⟨#[110]⟩ 0 = formN (.mk 2 n t l) := by rw [okB_eq _ _ _ _ _ true false (by decide) (by decide), len0]; simp [formN]
theorem ok6 : okB n t l.length ⟨#[110]⟩ 0 = formN (.mk 6 n t l) := by rw [okB_eq _ _ _ _ _ true false (by decide) (by decide), len0]; simp [formN]
theorem ok3 (e : decide (n = 1) = false) : okB n t l.length ⟨#[]⟩ 0 = formN (.mk 3 n t l) := by rw [okB_eq _ _ _ _ _ false false (by decide) (by decide), len0]; have e' := of_decide_eq_false e; simp [formN, e']
theorem ok3' (e : decide (n = 1) = true) : okB n t l.length ⟨#[110]⟩ 0 = formN (.mk 3 n t l) := by rw [okB_eq _ _ _ _ _ true false (by decide) (by decide), len0]; obtain rfl := of_decide_eq_true e; simp [formN]
theorem ok4 : okB n t l.length ⟨#[116]⟩ 0 = formN (.mk 4 n t l) := by rw [okB_eq _ _ _ _ _ false true (by decide) (by decide), len0]; simp [formN]
theorem ok5 (hl : l.length ≤ 400) (e : decide (t = ⟨#[]⟩) = false) : okB n t l.length ⟨#[116]⟩ 400 = formN (.mk 5 n t l) := by rw [okB_eq _ _ _ _ _ false true (by decide) (by decide), len400 _ hl]; have e' := of_decide_eq_false e; simp [formN, e']
theorem ok7 (hl : l.length ≤ 400) : okB n t l.length ⟨#[110, 116]⟩ 400 = formN (.mk 7 n t l) := by rw [okB_eq _ _ _ _ _ true true (by decide) (by decide), len400 _ hl]; simp [formN]
theorem ok8 : okB n t l.length ⟨#[]⟩ 1 = formN (.mk 8 n t l) := by rw [okB_eq _ _ _ _ _ false false (by decide) (by decide), len1]; simp [formN]
end
end Go.Proofs.Ythgackidonocpaa
namespace Go.Proofs.Ythgackidonocpaa
open Go.RowKit
def big400 (m : Nat) (x : Vd) : Bool := !decide ((400 : Int) < (m : Int)) && bigN x.1 x.2
theorem map_snoc2 {α β : Type} (f : α → β) {l : List α} {k : Nat} {a : α} (h : l[k]? = some a) : (l.take (k + 1)).map f = (l.take k).map f ++ [f a] := by
  obtain ⟨h1, rfl⟩ := List.getElem?_eq_some_iff.1 h
  rw [List.take_succ_eq_append_getElem h1, List.map_append]
  simp
theorem big400_eq (m : Nat) (k n : Int) (t : ByteArray) (l : List V) (d : Nat) : big400 m (.mk k n t l, d) = (!decide ((400 : Int) < (m : Int)) && (!decide ((40 : Int) < (d : Int)) && !decide ((4000 : Int) < (t.size : Int)))) := rfl
theorem big_all {v : V} {all : List Vd} (h : Lev v all all.length) : v.fitB 400 1 = all.all (big400 all.length) := by
  obtain ⟨h1, h2⟩ := h.done
  have h3 : 0 < all.length := by rw [h1]; obtain ⟨k, n, t, l⟩ := v; simp [V.size]
  unfold V.fitB
  rw [← h2 bigN, ← h1]
  by_cases h4 : all.length ≤ 400
  · rw [decide_eq_true h4, Bool.true_and]
    unfold big400
    rw [decide_eq_false (show ¬ (400 : Int) < (all.length : Int) by omega)]
    simp
  · rw [decide_eq_false h4, Bool.false_and]
    symm
    rw [List.all_eq_false]
    obtain ⟨x, hx⟩ := List.exists_mem_of_length_pos h3
    refine ⟨x, hx, ?_⟩
    unfold big400
    rw [decide_eq_true (show (400 : Int) < (all.length : Int) by omega)]
    simp
set_option maxRecDepth 100000 in
set_option maxHeartbeats 4000000 in
theorem valueFault_af (v : V) (hv : v.size ≤ 1048576) : AF Try.prog 18 [v.t] (· = .lit (.int .i64 v.check)) := by
  obtain ⟨k0, n0, t0, l0⟩ := v
  refine af_enter tok Try.func18 Try.ntmps18 Try.results18 rfl (by kernel_rfl) rfl rfl fun F hX => ?_
  repeat (first | refine gX ?_ | refine zN1 (fun hlen => ?_) | refine zN2 (fun hlen => ?_) | refine zAl (fun _ => ?_) | refine zBf ?_ | refine zAp (fun _ => ?_))
  refine zBo (fun u0 => ?_)
  repeat (first | refine gG ?_ | refine zN1 (fun hlen => ?_) | refine zN2 (fun hlen => ?_) | refine zAl (fun _ => ?_) | refine zBx (fun _ => ?_) | refine zAp (fun _ => ?_))
  refine x_loop [3, 4, 6, 18, 19, 20, 21, 22, 23, 24, 25, 26, 27, 28, 29, 30, 31, 32, 33, 34, 35, 36, 37, 38, 39, 40, 41, 42, 43, 44, 45, 46] (fun y : Nat × List Vd × Value => [(4, .c (.lit (.int .i64 (y.1 : Nat)))), (3, .own 0 y.2.2)]) (fun y => [.row y.2.2 141 5 y.2.1.length (y.2.1.flatMap atTs)])
    (fun y => Lev (.mk k0 n0 t0 l0) y.2.1 y.1) (fun y => (V.mk k0 n0 t0 l0).size - y.1) (0, [(.mk k0 n0 t0 l0, 1)], u0) (Lev.zero _) ⟨rfl, rfl, trivial⟩ rfl ?_
  rintro ⟨i, all, u⟩ hlev
  dsimp only at hlev ⊢
  have hll := hlev.len
  repeat (first | refine gG ?_ | refine zN1 (fun hlen => ?_) | refine zN2 (fun hlen => ?_) | refine zAl (fun _ => ?_) | refine zBx (fun _ => ?_) | refine zAp (fun _ => ?_))
  refine x_cond rfl (fun h => ?_) (fun h => ?_)
  · have hi' : i < all.length := by simpa using h
    obtain ⟨x, hx⟩ := nth hi'
    have hst := hlev.step hx
    have hsl := hst.len
    have hdp := hlev.deep x (List.mem_of_getElem? hx)
    obtain ⟨⟨ka, na, ta, la⟩, d⟩ := x
    simp only [List.length_append, kids, V.args, List.length_map] at hsl
    dsimp only at hdp
    have hrow : (all.flatMap atTs)[i * 5 + 0 + 3]? = some (.row la.length 4 (V.all la)) := (flat_get atTs 5 atTs_len hx (j := 3) (by omega)).trans rfl
    have hdv : (all.flatMap atTs)[i * 5 + 4]? = some (.lit (.int .i64 (d : Int))) := (flat_get atTs 5 atTs_len hx (j := 4) (by omega)).trans rfl
    have hfl := flat_len atTs 5 atTs_len all
    repeat (first | refine gG ?_ | refine zN1 (fun hlen => ?_) | refine zN2 (fun hlen => ?_) | refine zAl (fun _ => ?_) | refine zBx (fun _ => ?_) | refine zAp (fun _ => ?_))
    refine zIxo i hi' ?_
    repeat (first | refine gG ?_ | refine zN1 (fun hlen => ?_) | refine zN2 (fun hlen => ?_) | refine zAl (fun _ => ?_) | refine zBx (fun _ => ?_) | refine zAp (fun _ => ?_))
    refine zElo1 hrow ?_
    repeat (first | refine gG ?_ | refine zN1 (fun hlen => ?_) | refine zN2 (fun hlen => ?_) | refine zAl (fun _ => ?_) | refine zBx (fun _ => ?_) | refine zAp (fun _ => ?_))
    refine x_loop [3, 6, 31, 32, 33, 34, 35, 36, 37, 38, 39, 40, 41, 42, 43, 44, 45, 46] (fun y : Nat × Value => [(31, .c (.lit (.int .i64 (y.1 : Nat)))), (3, .own 0 y.2)]) (fun y => [.row y.2 141 5 (all.length + y.1) (all.flatMap atTs ++ ((la.take y.1).map fun a => (a, d + 1)).flatMap atTs)])
      (fun y => y.1 ≤ la.length) (fun y => la.length - y.1) (0, u) (Nat.zero_le _) ⟨rfl, rfl, trivial⟩ (by simp) ?_
    rintro ⟨j, w⟩ hj
    dsimp only at hj ⊢
    repeat (first | refine gG ?_ | refine zN1 (fun hlen => ?_) | refine zN2 (fun hlen => ?_) | refine zAl (fun _ => ?_) | refine zBx (fun _ => ?_) | refine zAp (fun _ => ?_))
    refine x_cond rfl (fun h => ?_) (fun h => ?_)
    · have hj' : j < la.length := by simpa using h
      obtain ⟨a, ha⟩ := nth hj'
      have hsn : ((la.take (j + 1)).map fun a => (a, d + 1)).flatMap atTs = ((la.take j).map fun a => (a, d + 1)).flatMap atTs ++ atTs (a, d + 1) := by
        rw [map_snoc2 _ ha, List.flatMap_append]; simp
      have hdv' : (all.flatMap atTs ++ ((la.take j).map fun a => (a, d + 1)).flatMap atTs)[i * 5 + 4]? = some (.lit (.int .i64 (d : Int))) := by rw [List.getElem?_append_left (by omega)]; exact hdv
      have hin : i < all.length + j := by omega
      repeat (first | refine gG ?_ | refine zN1 (fun hlen => ?_) | refine zN2 (fun hlen => ?_) | refine zAl (fun _ => ?_) | refine zBx (fun _ => ?_) | refine zAp (fun _ => ?_))
      refine zIx (j) (hj') ?_
      repeat (first | refine gG ?_ | refine zN1 (fun hlen => ?_) | refine zN2 (fun hlen => ?_) | refine zAl (fun _ => ?_) | refine zBx (fun _ => ?_) | refine zAp (fun _ => ?_))
      refine zEl (V.at ha) (V.ts_len a) ?_
      obtain ⟨kb', nb', tb', lb'⟩ := a
      repeat (first | refine gG ?_ | refine zN1 (fun hlen => ?_) | refine zN2 (fun hlen => ?_) | refine zAl (fun _ => ?_) | refine zBx (fun _ => ?_) | refine zAp (fun _ => ?_))
      refine ac_draw [1, 1, 1, 1, 1, 1, 1, 1, 1, 1, 2, 1] [0, 1, 2, 3, 4, 5, 6, 7, 8, 9, 10, 11] (by kernel_rfl) (by kernel_rfl) ?_
      refine gW ?_
      apply w_q; (focus exact rfl); (focus exact rfl); focus (intro _; (refine zIxo i hin ?_); exact det_refl)
      refine gW ?_
      apply w_q; (focus exact rfl); (focus exact rfl); focus (intro _; (refine zElo1 hdv' ?_); exact det_refl)
      refine gW ?_
      apply w_l; (focus exact rfl); (focus exact rfl); (first | (refine zkL ?_; first | refine zL1 ?_ | refine zL2 ?_ | refine zL3 ?_ | refine zLp ?_) | refine zM ?_ | (refine zkF ?_; first | refine zF1 ?_ | refine zF2 ?_ | refine zF3 ?_) | refine zA ?_ | (refine zkB ?_; first | refine zC5 ?_ | refine zC6 ?_ | refine zC1 ?_ | refine zC2 ?_ | refine zC3 ?_ | refine zC4 ?_ | refine zS5 ?_ | refine zS6 ?_ | refine zS1 ?_ | refine zS2 ?_ | refine zS3 ?_ | refine zS4 ?_ | refine zInc ?_ | refine zQ1 ?_ | refine zQ2 ?_ | refine zQ3 ?_ | refine zQ4 ?_ | refine zQ5 ?_ | refine zQ6 ?_) | (refine zkI ?_; first | refine zN1 (fun hlen => ?_) | refine zN2 (fun hlen => ?_) | refine zN3 ?_ | refine zN4 ?_ | refine zAp (fun _ => ?_)) | refine zS ?_ | refine zAl (fun _ => ?_) | refine zBx (fun _ => ?_) | refine zPt ?_ | refine zPf ?_ | refine zE ?_ | refine zEA ?_ | refine zNot ?_ | refine zBd ?_ | refine zBs ?_ | refine zFn ?_ | refine zK1 ?_ | refine zK2 ?_)
      refine gW ?_
      refine w_nil ?_
      repeat (first | refine gG ?_ | refine zN1 (fun hlen => ?_) | refine zN2 (fun hlen => ?_) | refine zAl (fun _ => ?_) | refine zBx (fun _ => ?_) | refine zAp (fun _ => ?_))
      exact ⟨(j + 1, _), hj', by simp only; omega, x_wkd 1 ⟨rfl, rfl, trivial⟩ (by simp only [hsn, ← List.append_assoc, ← Nat.add_assoc]; rfl) (by repeat (first | exact ag_refl | refine ag_upd rfl ?_ | refine ag_at rfl rfl ?_))⟩
    · have hj' : j = la.length := by have : ¬ j < la.length := by simpa using h
                                     omega
      subst hj'
      repeat (first | refine gG ?_ | refine zN1 (fun hlen => ?_) | refine zN2 (fun hlen => ?_) | refine zAl (fun _ => ?_) | refine zBx (fun _ => ?_) | refine zAp (fun _ => ?_))
      refine ⟨(i + 1, all ++ kids (.mk ka na ta la, d), w), hst, ?_, x_wkd 1 ⟨rfl, rfl, trivial⟩ (by simp only [kids, V.args, List.take_length, List.length_append, List.length_map, List.flatMap_append]; rfl) (by repeat (first | exact ag_refl | refine ag_upd rfl ?_ | refine ag_at rfl rfl ?_))⟩
      have h1 := hlev.size
      have h2 := vsz_len (all.drop i)
      rw [List.length_drop] at h2
      simp only
      omega
  · have hi' : i = all.length := by have := hlev.le
                                    have : ¬ i < all.length := by simpa using h
                                    omega
    subst hi'
    have hbig := big_all hlev
    have hdone := hlev.done
    repeat (first | refine gG ?_ | refine zN1 (fun hlen => ?_) | refine zN2 (fun hlen => ?_) | refine zAl (fun _ => ?_) | refine zBx (fun _ => ?_) | refine zAp (fun _ => ?_))
    refine x_loop [2, 8, 49, 50, 51, 52, 53, 54, 55, 56, 57, 58, 59, 60, 61, 62, 63, 64, 65, 66, 67, 68] (fun y : Nat => [(49, .c (.lit (.int .i64 (y : Nat))))]) (fun _ => [.row u 141 5 all.length (all.flatMap atTs)])
      (fun y => y ≤ all.length ∧ (all.take y).all (big400 all.length) = true) (fun y => all.length - y) 0 ⟨Nat.zero_le _, by simp⟩ ⟨rfl, trivial⟩ rfl ?_
    rintro j ⟨hj, hja⟩
    repeat (first | refine gG ?_ | refine zN1 (fun hlen => ?_) | refine zN2 (fun hlen => ?_) | refine zAl (fun _ => ?_) | refine zBx (fun _ => ?_) | refine zAp (fun _ => ?_))
    refine x_cond rfl (fun h => ?_) (fun h => ?_)
    · have hj' : j < all.length := by simpa using h
      obtain ⟨x, hx⟩ := nth hj'
      have hsa := all_snoc (big400 all.length) hx
      obtain ⟨⟨ka, na, ta, la⟩, d⟩ := x
      have hno : big400 all.length (.mk ka na ta la, d) = false → (V.mk k0 n0 t0 l0).check = 2 := fun hb => by
        rw [V.check, hbig, all_no _ hx hb]; rfl
      repeat (first | refine gG ?_ | refine zN1 (fun hlen => ?_) | refine zN2 (fun hlen => ?_) | refine zAl (fun _ => ?_) | refine zBx (fun _ => ?_) | refine zAp (fun _ => ?_))
      refine zIxo j hj' ?_
      repeat (first | refine gG ?_ | refine zN1 (fun hlen => ?_) | refine zN2 (fun hlen => ?_) | refine zAl (fun _ => ?_) | refine zBx (fun _ => ?_) | refine zAp (fun _ => ?_))
      refine zElo (flat_at atTs 5 atTs_len hx) (atTs_len _) ?_
      cases d1 : decide ((400 : Int) < (all.length : Int))
      · cases d2 : decide ((40 : Int) < (d : Int))
        · cases d3 : decide ((4000 : Int) < (ta.size : Int))
          · repeat (first | refine gG ?_ | refine zN1 (fun hlen => ?_) | refine zN2 (fun hlen => ?_) | refine zAl (fun _ => ?_) | refine zBx (fun _ => ?_) | refine zAp (fun _ => ?_))
            exact ⟨j + 1, ⟨hj', by rw [hsa, hja, big400_eq, d1, d2, d3]; rfl⟩, by omega, x_wkd 1 ⟨rfl, trivial⟩ rfl (by repeat (first | exact ag_refl | refine ag_upd rfl ?_ | refine ag_at rfl rfl ?_))⟩
          · repeat (first | refine gG ?_ | refine zN1 (fun hlen => ?_) | refine zN2 (fun hlen => ?_) | refine zAl (fun _ => ?_) | refine zBx (fun _ => ?_) | refine zAp (fun _ => ?_))
            first | refine zR ?_ | refine zQ ?_
            rw [hno (by rw [big400_eq, d1, d2, d3]; rfl)]; rfl
        · repeat (first | refine gG ?_ | refine zN1 (fun hlen => ?_) | refine zN2 (fun hlen => ?_) | refine zAl (fun _ => ?_) | refine zBx (fun _ => ?_) | refine zAp (fun _ => ?_))
          first | refine zR ?_ | refine zQ ?_
          rw [hno (by rw [big400_eq, d1, d2]; rfl)]; rfl
      · repeat (first | refine gG ?_ | refine zN1 (fun hlen => ?_) | refine zN2 (fun hlen => ?_) | refine zAl (fun _ => ?_) | refine zBx (fun _ => ?_) | refine zAp (fun _ => ?_))
        first | refine zR ?_ | refine zQ ?_
        rw [hno (by rw [big400_eq, d1]; rfl)]; rfl
    · have hj' : j = all.length := by have : ¬ j < all.length := by simpa using h
                                      omega
      subst hj'
      rw [List.take_length] at hja
      rw [hja] at hbig
      have h400 : all.length ≤ 400 := by
        have := hbig
        simp only [V.fitB, Bool.and_eq_true, decide_eq_true_eq] at this
        omega
      repeat (first | refine gG ?_ | refine zN1 (fun hlen => ?_) | refine zN2 (fun hlen => ?_) | refine zAl (fun _ => ?_) | refine zBx (fun _ => ?_) | refine zAp (fun _ => ?_))
      refine x_loop [2, 10, 11, 12, 13, 14, 71, 72, 73, 74, 75, 76, 77, 78, 79, 80, 81, 82, 83, 84, 85, 86, 87, 88, 89, 90, 91, 92, 93, 94, 95, 96, 97, 98, 99, 100, 101, 102, 103, 104, 105, 106, 107, 108, 109, 110, 111, 112, 113, 114, 115, 116, 117, 118, 119, 120, 121, 122, 123, 124, 125, 126, 127, 128, 129, 130, 131, 132, 133] (fun y : Nat => [(71, .c (.lit (.int .i64 (y : Nat))))]) (fun _ => [.row u 141 5 all.length (all.flatMap atTs)])
        (fun y => y ≤ all.length ∧ (all.take y).all (fun x => formP x.1 x.2) = true) (fun y => all.length - y) 0 ⟨Nat.zero_le _, by simp⟩ ⟨rfl, trivial⟩ rfl ?_
      rintro j ⟨hj, hjf⟩
      repeat (first | refine gG ?_ | refine zN1 (fun hlen => ?_) | refine zN2 (fun hlen => ?_) | refine zAl (fun _ => ?_) | refine zBx (fun _ => ?_) | refine zAp (fun _ => ?_))
      refine x_cond rfl (fun h => ?_) (fun h => ?_)
      · have hj' : j < all.length := by simpa using h
        obtain ⟨x, hx⟩ := nth hj'
        have hsa := all_snoc (fun x => formP x.1 x.2) hx
        have hsub := hlev.sub x (List.mem_of_getElem? hx)
        obtain ⟨⟨ka, na, ta, la⟩, d⟩ := x
        have hla : la.length ≤ 400 := by
          have h1 := V.len_sizes la
          simp only [V.size] at hsub hdone
          omega
        have hno : formN (.mk ka na ta la) = false → (V.mk k0 n0 t0 l0).check = 3 := fun hb => by
          rw [V.check, hbig, ← hdone.2 formP, all_no _ hx hb]; rfl
        repeat (first | refine gG ?_ | refine zN1 (fun hlen => ?_) | refine zN2 (fun hlen => ?_) | refine zAl (fun _ => ?_) | refine zBx (fun _ => ?_) | refine zAp (fun _ => ?_))
        refine zIxo j hj' ?_
        repeat (first | refine gG ?_ | refine zN1 (fun hlen => ?_) | refine zN2 (fun hlen => ?_) | refine zAl (fun _ => ?_) | refine zBx (fun _ => ?_) | refine zAp (fun _ => ?_))
        refine zElo (flat_at atTs 5 atTs_len hx) (atTs_len _) ?_
        repeat (first | refine gO ?_ | refine zN1 (fun hlen => ?_) | refine zN2 (fun hlen => ?_) | refine zAl (fun _ => ?_) | refine zBx (fun _ => ?_) | refine zAp (fun _ => ?_))
        rename_i b4
        refine ac_seq ?_
        refine ac_region ?_
        repeat (first | refine gO ?_ | refine zN1 (fun hlen => ?_) | refine zN2 (fun hlen => ?_) | refine zAl (fun _ => ?_) | refine zBx (fun _ => ?_) | refine zAp (fun _ => ?_))
        refine ac_seq ?_
        refine x_join [75, 76, 77, 78, 79, 80, 81, 82, 83, 84, 85, 86, 87, 88, 89, 90, 91, 92, 93, 94, 95, 96, 97, 98, 99, 100, 2, 11, 12] (fun y : {y : ByteArray × Int // okB na ta la.length y.1 y.2 = formN (.mk ka na ta la) ∧ y.1.size ≤ 2} => [(11, .c (.lit (.string y.1.1))), (12, .c (.lit (.int .i64 y.1.2)))])
          (fun _ => [.row u 141 5 all.length (all.flatMap atTs), .box b4 141 [.c (.lit (.int .i64 ka)), .c (.lit (.int .i64 na)), .c (.lit (.string ta)), .c (.row la.length 4 (V.all la)), .c (.lit (.int .i64 (d : Int)))]]) ?_ ?_
        rotate_left
        · skip
          cases e1 : decide (ka = 1)
          · skip
            cases e2 : decide (ka = 2)
            · skip
              cases e6 : decide (ka = 6)
              · skip
                cases e3 : decide (ka = 3)
                · skip
                  cases e4 : decide (ka = 4)
                  · skip
                    cases e5 : decide (ka = 5)
                    · skip
                      cases e7 : decide (ka = 7)
                      · skip
                        cases e8 : decide (ka = 8)
                        · skip
                          repeat (first | refine gG ?_ | refine zN1 (fun hlen => ?_) | refine zN2 (fun hlen => ?_) | refine zAl (fun _ => ?_) | refine zBx (fun _ => ?_) | refine zAp (fun _ => ?_))
                          first | refine zR ?_ | refine zQ ?_
                          rw [hno (by simp_all [formN])]; rfl
                        · obtain rfl := of_decide_eq_true e8
                          repeat (first | refine gG ?_ | refine zN1 (fun hlen => ?_) | refine zN2 (fun hlen => ?_) | refine zAl (fun _ => ?_) | refine zBx (fun _ => ?_) | refine zAp (fun _ => ?_))
                          exact ⟨⟨(⟨#[]⟩, 1), ok8 _ _ _, by decide⟩, x_wkd 2 ⟨rfl, rfl, trivial⟩ rfl (by repeat (first | exact ag_refl | refine ag_upd rfl ?_ | refine ag_at rfl rfl ?_))⟩
                      · obtain rfl := of_decide_eq_true e7
                        repeat (first | refine gG ?_ | refine zN1 (fun hlen => ?_) | refine zN2 (fun hlen => ?_) | refine zAl (fun _ => ?_) | refine zBx (fun _ => ?_) | refine zAp (fun _ => ?_))
                        exact ⟨⟨(⟨#[110, 116]⟩, 400), ok7 _ _ _ hla, by decide⟩, x_wkd 2 ⟨rfl, rfl, trivial⟩ rfl (by repeat (first | exact ag_refl | refine ag_upd rfl ?_ | refine ag_at rfl rfl ?_))⟩
                    · obtain rfl := of_decide_eq_true e5
                      cases e : decide (ta = ⟨#[]⟩)
                      · repeat (first | refine gG ?_ | refine zN1 (fun hlen => ?_) | refine zN2 (fun hlen => ?_) | refine zAl (fun _ => ?_) | refine zBx (fun _ => ?_) | refine zAp (fun _ => ?_))
                        exact ⟨⟨(⟨#[116]⟩, 400), ok5 _ _ _ hla e, by decide⟩, x_wkd 2 ⟨rfl, rfl, trivial⟩ rfl (by repeat (first | exact ag_refl | refine ag_upd rfl ?_ | refine ag_at rfl rfl ?_))⟩
                      · repeat (first | refine gG ?_ | refine zN1 (fun hlen => ?_) | refine zN2 (fun hlen => ?_) | refine zAl (fun _ => ?_) | refine zBx (fun _ => ?_) | refine zAp (fun _ => ?_))
                        first | refine zR ?_ | refine zQ ?_
                        rw [hno (by simp [formN, e])]; rfl
                  · obtain rfl := of_decide_eq_true e4
                    repeat (first | refine gG ?_ | refine zN1 (fun hlen => ?_) | refine zN2 (fun hlen => ?_) | refine zAl (fun _ => ?_) | refine zBx (fun _ => ?_) | refine zAp (fun _ => ?_))
                    exact ⟨⟨(⟨#[116]⟩, 0), ok4 _ _ _, by decide⟩, x_wkd 2 ⟨rfl, rfl, trivial⟩ rfl (by repeat (first | exact ag_refl | refine ag_upd rfl ?_ | refine ag_at rfl rfl ?_))⟩
                · obtain rfl := of_decide_eq_true e3
                  cases e : decide (na = 1)
                  · repeat (first | refine gG ?_ | refine zN1 (fun hlen => ?_) | refine zN2 (fun hlen => ?_) | refine zAl (fun _ => ?_) | refine zBx (fun _ => ?_) | refine zAp (fun _ => ?_))
                    exact ⟨⟨(⟨#[]⟩, 0), ok3 _ _ _ e, by decide⟩, x_wkd 2 ⟨rfl, rfl, trivial⟩ rfl (by repeat (first | exact ag_refl | refine ag_upd rfl ?_ | refine ag_at rfl rfl ?_))⟩
                  · repeat (first | refine gG ?_ | refine zN1 (fun hlen => ?_) | refine zN2 (fun hlen => ?_) | refine zAl (fun _ => ?_) | refine zBx (fun _ => ?_) | refine zAp (fun _ => ?_))
                    exact ⟨⟨(⟨#[110]⟩, 0), ok3' _ _ _ e, by decide⟩, x_wkd 2 ⟨rfl, rfl, trivial⟩ rfl (by repeat (first | exact ag_refl | refine ag_upd rfl ?_ | refine ag_at rfl rfl ?_))⟩
              · obtain rfl := of_decide_eq_true e6
                repeat (first | refine gG ?_ | refine zN1 (fun hlen => ?_) | refine zN2 (fun hlen => ?_) | refine zAl (fun _ => ?_) | refine zBx (fun _ => ?_) | refine zAp (fun _ => ?_))
                exact ⟨⟨(⟨#[110]⟩, 0), ok6 _ _ _, by decide⟩, x_wkd 2 ⟨rfl, rfl, trivial⟩ rfl (by repeat (first | exact ag_refl | refine ag_upd rfl ?_ | refine ag_at rfl rfl ?_))⟩
            · obtain rfl := of_decide_eq_true e2
              repeat (first | refine gG ?_ | refine zN1 (fun hlen => ?_) | refine zN2 (fun hlen => ?_) | refine zAl (fun _ => ?_) | refine zBx (fun _ => ?_) | refine zAp (fun _ => ?_))
              exact ⟨⟨(⟨#[110]⟩, 0), ok2 _ _ _, by decide⟩, x_wkd 2 ⟨rfl, rfl, trivial⟩ rfl (by repeat (first | exact ag_refl | refine ag_upd rfl ?_ | refine ag_at rfl rfl ?_))⟩
          · obtain rfl := of_decide_eq_true e1
            repeat (first | refine gG ?_ | refine zN1 (fun hlen => ?_) | refine zN2 (fun hlen => ?_) | refine zAl (fun _ => ?_) | refine zBx (fun _ => ?_) | refine zAp (fun _ => ?_))
            exact ⟨⟨(⟨#[]⟩, 0), ok1 _ _ _, by decide⟩, x_wkd 2 ⟨rfl, rfl, trivial⟩ rfl (by repeat (first | exact ag_refl | refine ag_upd rfl ?_ | refine ag_at rfl rfl ?_))⟩
        rintro ⟨⟨has, most⟩, hy, hsz⟩
        dsimp only at hy hsz ⊢
        have hc1 := containsB_af 110 has.data.toList
        have hc2 := containsB_af 116 has.data.toList
        repeat (first | refine gG ?_ | refine zN1 (fun hlen => ?_) | refine zN2 (fun hlen => ?_) | refine zAl (fun _ => ?_) | refine zBx (fun _ => ?_) | refine zAp (fun _ => ?_))
        refine zByt (s := has) (by simp only [maxLen]; omega) ?_
        repeat (first | refine gG ?_ | refine zN1 (fun hlen => ?_) | refine zN2 (fun hlen => ?_) | refine zAl (fun _ => ?_) | refine zBx (fun _ => ?_) | refine zAp (fun _ => ?_))
        refine zCall (hc1) ?_
        rintro _ rfl
        repeat (first | refine gG ?_ | refine zN1 (fun hlen => ?_) | refine zN2 (fun hlen => ?_) | refine zAl (fun _ => ?_) | refine zBx (fun _ => ?_) | refine zAp (fun _ => ?_))
        refine zByt (s := has) (by simp only [maxLen]; omega) ?_
        repeat (first | refine gG ?_ | refine zN1 (fun hlen => ?_) | refine zN2 (fun hlen => ?_) | refine zAl (fun _ => ?_) | refine zBx (fun _ => ?_) | refine zAp (fun _ => ?_))
        refine zCall (hc2) ?_
        rintro _ rfl
        cases e1 : decide (na = 0)
        · cases c1 : (has.data.toList.any fun b => decide ((110 : UInt8) = b))
          · skip
            repeat (first | refine gG ?_ | refine zN1 (fun hlen => ?_) | refine zN2 (fun hlen => ?_) | refine zAl (fun _ => ?_) | refine zBx (fun _ => ?_) | refine zAp (fun _ => ?_))
            first | refine zR ?_ | refine zQ ?_
            rw [hno (by rw [← hy]; simp only [okB, e1, c1]; first | rfl | simp)]; rfl
          · skip
            cases e2 : decide (ta = ⟨#[]⟩)
            · cases c2 : (has.data.toList.any fun b => decide ((116 : UInt8) = b))
              · skip
                repeat (first | refine gG ?_ | refine zN1 (fun hlen => ?_) | refine zN2 (fun hlen => ?_) | refine zAl (fun _ => ?_) | refine zBx (fun _ => ?_) | refine zAp (fun _ => ?_))
                first | refine zR ?_ | refine zQ ?_
                rw [hno (by rw [← hy]; simp only [okB, e1, c1, e2, c2]; first | rfl | simp)]; rfl
              · skip
                cases em : decide (most < (la.length : Int))
                · repeat (first | refine gG ?_ | refine zN1 (fun hlen => ?_) | refine zN2 (fun hlen => ?_) | refine zAl (fun _ => ?_) | refine zBx (fun _ => ?_) | refine zAp (fun _ => ?_))
                  exact ⟨j + 1, ⟨hj', by rw [hsa, hjf]; simp only [formP]; rw [← hy]; simp only [okB, e1, c1, e2, c2, em]; first | rfl | simp⟩, by omega, x_wkd 1 ⟨rfl, trivial⟩ rfl (by repeat (first | exact ag_refl | refine ag_upd rfl ?_ | refine ag_at rfl rfl ?_))⟩
                · skip
                  repeat (first | refine gG ?_ | refine zN1 (fun hlen => ?_) | refine zN2 (fun hlen => ?_) | refine zAl (fun _ => ?_) | refine zBx (fun _ => ?_) | refine zAp (fun _ => ?_))
                  first | refine zR ?_ | refine zQ ?_
                  rw [hno (by rw [← hy]; simp only [okB, e1, c1, e2, c2, em]; first | rfl | simp)]; rfl
            · skip
              cases em : decide (most < (la.length : Int))
              · repeat (first | refine gG ?_ | refine zN1 (fun hlen => ?_) | refine zN2 (fun hlen => ?_) | refine zAl (fun _ => ?_) | refine zBx (fun _ => ?_) | refine zAp (fun _ => ?_))
                exact ⟨j + 1, ⟨hj', by rw [hsa, hjf]; simp only [formP]; rw [← hy]; simp only [okB, e1, c1, e2, em]; first | rfl | simp⟩, by omega, x_wkd 1 ⟨rfl, trivial⟩ rfl (by repeat (first | exact ag_refl | refine ag_upd rfl ?_ | refine ag_at rfl rfl ?_))⟩
              · skip
                repeat (first | refine gG ?_ | refine zN1 (fun hlen => ?_) | refine zN2 (fun hlen => ?_) | refine zAl (fun _ => ?_) | refine zBx (fun _ => ?_) | refine zAp (fun _ => ?_))
                first | refine zR ?_ | refine zQ ?_
                rw [hno (by rw [← hy]; simp only [okB, e1, c1, e2, em]; first | rfl | simp)]; rfl
        · skip
          cases e2 : decide (ta = ⟨#[]⟩)
          · cases c2 : (has.data.toList.any fun b => decide ((116 : UInt8) = b))
            · skip
              repeat (first | refine gG ?_ | refine zN1 (fun hlen => ?_) | refine zN2 (fun hlen => ?_) | refine zAl (fun _ => ?_) | refine zBx (fun _ => ?_) | refine zAp (fun _ => ?_))
              first | refine zR ?_ | refine zQ ?_
              rw [hno (by rw [← hy]; simp only [okB, e1, e2, c2]; first | rfl | simp)]; rfl
            · skip
              cases em : decide (most < (la.length : Int))
              · repeat (first | refine gG ?_ | refine zN1 (fun hlen => ?_) | refine zN2 (fun hlen => ?_) | refine zAl (fun _ => ?_) | refine zBx (fun _ => ?_) | refine zAp (fun _ => ?_))
                exact ⟨j + 1, ⟨hj', by rw [hsa, hjf]; simp only [formP]; rw [← hy]; simp only [okB, e1, e2, c2, em]; first | rfl | simp⟩, by omega, x_wkd 1 ⟨rfl, trivial⟩ rfl (by repeat (first | exact ag_refl | refine ag_upd rfl ?_ | refine ag_at rfl rfl ?_))⟩
              · skip
                repeat (first | refine gG ?_ | refine zN1 (fun hlen => ?_) | refine zN2 (fun hlen => ?_) | refine zAl (fun _ => ?_) | refine zBx (fun _ => ?_) | refine zAp (fun _ => ?_))
                first | refine zR ?_ | refine zQ ?_
                rw [hno (by rw [← hy]; simp only [okB, e1, e2, c2, em]; first | rfl | simp)]; rfl
          · skip
            cases em : decide (most < (la.length : Int))
            · repeat (first | refine gG ?_ | refine zN1 (fun hlen => ?_) | refine zN2 (fun hlen => ?_) | refine zAl (fun _ => ?_) | refine zBx (fun _ => ?_) | refine zAp (fun _ => ?_))
              exact ⟨j + 1, ⟨hj', by rw [hsa, hjf]; simp only [formP]; rw [← hy]; simp only [okB, e1, e2, em]; first | rfl | simp⟩, by omega, x_wkd 1 ⟨rfl, trivial⟩ rfl (by repeat (first | exact ag_refl | refine ag_upd rfl ?_ | refine ag_at rfl rfl ?_))⟩
            · skip
              repeat (first | refine gG ?_ | refine zN1 (fun hlen => ?_) | refine zN2 (fun hlen => ?_) | refine zAl (fun _ => ?_) | refine zBx (fun _ => ?_) | refine zAp (fun _ => ?_))
              first | refine zR ?_ | refine zQ ?_
              rw [hno (by rw [← hy]; simp only [okB, e1, e2, em]; first | rfl | simp)]; rfl
      · have hj' : j = all.length := by have : ¬ j < all.length := by simpa using h
                                        omega
        subst hj'
        rw [List.take_length] at hjf
        repeat (first | refine gG ?_ | refine zN1 (fun hlen => ?_) | refine zN2 (fun hlen => ?_) | refine zAl (fun _ => ?_) | refine zBx (fun _ => ?_) | refine zAp (fun _ => ?_))
        first | refine zR ?_ | refine zQ ?_
        rw [V.check, hbig, ← hdone.2 formP, hjf]; rfl
end Go.Proofs.Ythgackidonocpaa
namespace Go.Proofs.Ythgackidonocpaa
open Go.RowKit
/-- the bytes of a value and the error -/
def V.out (v : V) : List UInt8 := if v.check = 0 then v.bytes else []
def Outs2 (b : List UInt8) (e : Int) (t : T) : Prop := t = .tup [bytRow b, .lit (.int .i64 e)]
set_option maxRecDepth 100000 in
set_option maxHeartbeats 2000000 in
theorem writtenV_af (v : V) (hok : v.ok) (hb : v.bytes.length ≤ 1099511627776) : AF Try.prog 73 [v.t, .fn (.func 17) [], .fn (.func 74) []] (Outs2 v.out v.check) := by
  have hc := check_af v
  have ha := ag_nil (Nat.succ_pos 0) (appendValue_ag v hok (.slice none 0 0) [] (by simpa using hb))
  obtain ⟨k, n, t, l⟩ := v
  refine af_enter tok Try.func73 Try.ntmps73 Try.results73 rfl (by kernel_rfl) rfl rfl fun F hX => ?_
  repeat (first | refine gG ?_ | refine zBf ?_)
  refine zCallc (hc) ?_
  rintro _ rfl
  cases d1 : decide ((V.mk k n t l).check = 0)
  · have hno : ¬ (V.mk k n t l).check = 0 := of_decide_eq_false d1
    repeat (first | refine gG ?_ | refine zBx (fun _ => ?_))
    first | refine zR (ts := [bytRow [], .lit (.int .i64 (V.mk k n t l).check)]) ?_ | refine zQ (ts := [bytRow [], .lit (.int .i64 (V.mk k n t l).check)]) ?_
    rw [Outs2, V.out, if_neg hno]; rfl
  · have hyes : (V.mk k n t l).check = 0 := of_decide_eq_true d1
    repeat (first | refine gG ?_ | refine zBx (fun _ => ?_))
    refine zCallGc [] ha ?_
    rintro _ _ ⟨v', rfl, rfl⟩
    refine ⟨.own 0 v', _, re_own, rfl, rfl, ?_⟩
    repeat (first | refine gG ?_ | refine zBx (fun _ => ?_))
    first | refine zR ?_ | refine zQ ?_
    rw [Outs2, V.out, if_pos hyes, hyes]; rfl
set_option maxRecDepth 100000 in
set_option maxHeartbeats 2000000 in
theorem bytesV_af (v : V) (hok : v.ok) (hb : v.bytes.length ≤ 1099511627776) : AF Try.prog 15 [v.t] (Outs2 v.out v.check) := by
  have hc := writtenV_af v hok hb
  obtain ⟨k, n, t, l⟩ := v
  refine af_enter tok Try.func15 Try.ntmps15 Try.results15 rfl (by kernel_rfl) rfl rfl fun F hX => ?_
  repeat (first | refine gG ?_ | refine zBf ?_)
  refine zCall (hc) ?_
  rintro _ rfl
  repeat (first | refine gG ?_ | refine zBx (fun _ => ?_))
  first | refine zR ?_ | refine zQ ?_
  rfl
set_option maxRecDepth 100000 in
set_option maxHeartbeats 2000000 in
theorem sameBytes_af (a b : List UInt8) : AF Try.prog 19 [bytRow a, bytRow b] (· = .lit (.bool (decide (bs a = bs b)))) := by
  refine af_enter tok Try.func19 Try.ntmps19 Try.results19 rfl (by kernel_rfl) rfl rfl fun F hX => ?_
  repeat (first | refine gG ?_)
  refine zStr a rfl rfl ?_
  repeat (first | refine gG ?_)
  refine zStr b rfl rfl ?_
  repeat (first | refine gG ?_)
  first | refine zR ?_ | refine zQ ?_
  rfl
def oneV : V := .mk 2 1 ⟨#[]⟩ []
theorem oneV_ok : oneV.ok := by simp [oneV, V.ok, V.oks, inI]
theorem oneV_bytes : oneV.bytes = [2, 2, 0, 0] := by
  simp only [oneV, V.bytes, V.bytesAll]
  rw [uv_small (n := zz 1) (by decide), uv_small (n := (ByteArray.mk #[]).size) (by decide), uv_small (n := ([] : List V).length) (by decide)]
  decide
theorem oneV_check : oneV.check = 0 := by decide +kernel
set_option maxRecDepth 100000 in
set_option maxHeartbeats 2000000 in
theorem live_af : AF Try.prog 13 [] (· = .lit (.bool true)) := by
  have hc := bytesV_af oneV oneV_ok (by rw [oneV_bytes]; decide)
  rw [V.out, if_pos oneV_check, oneV_bytes, oneV_check] at hc
  refine af_enter tok Try.func13 Try.ntmps13 Try.results13 rfl (by kernel_rfl) rfl rfl fun F hX => ?_
  repeat (first | refine gG ?_)
  refine zCall (hc) ?_
  rintro _ rfl
  repeat (first | refine gG ?_)
  refine zStr [2, 2, 0, 0] rfl rfl ?_
  repeat (first | refine gG ?_)
  first | refine zR ?_ | refine zQ ?_
  rfl
end Go.Proofs.Ythgackidonocpaa
namespace Go.Proofs.Ythgackidonocpaa
open Go.RowKit
theorem rByte_len (s : RS) : (rByte s).2.l.length ≤ s.l.length := by
  obtain ⟨l, b, d⟩ := s
  cases l <;> simp [rByte, RS.fail]
theorem rUns_len : ∀ (k i u : Nat) (s : RS), (rUns k i u s).2.l.length ≤ s.l.length
  | 0, _, _, s => Nat.le_refl _
  | k + 1, i, u, s => by
    have h := rByte_len s
    rw [rUns]
    split
    · exact h
    · split
      · exact h
      · exact Nat.le_trans (rUns_len k _ _ _) h
theorem rNat_len (s : RS) : (rNat s).2.l.length ≤ s.l.length := by
  have h : (rU s).2.l.length ≤ s.l.length := rUns_len _ _ _ s
  unfold rNat
  split <;> exact h
theorem rInt_len (s : RS) : (rInt s).2.l.length ≤ s.l.length := rUns_len _ _ _ s
theorem rInt_dep (s : RS) : (rInt s).2.dep = s.dep := rUns_dep _ _ _ s
theorem rCount_len (s : RS) : (rCount s).2.l.length ≤ s.l.length := by
  have h := rNat_len s
  unfold rCount
  split <;> exact h
theorem rText_len (s : RS) : (rText s).2.l.length ≤ s.l.length := by
  have h := rCount_len s
  simp only [rText, List.length_drop]
  omega
/-- it takes bytes off, and comes back from where it went -/
structure Fair {α : Type} (g : RS → α × RS) : Prop where
  len : ∀ s, (g s).2.l.length ≤ s.l.length
  dep : ∀ s, (g s).2.bad = false → (g s).2.dep = s.dep
  up : ∀ s, s.dep ≤ (g s).2.dep
  top : ∀ s, (g s).2.dep ≤ s.dep + 1
theorem rLoop_fair {α : Type} {g : RS → α × RS} (hg : Fair g) : ∀ n, Fair (rLoop g n)
  | 0 => ⟨fun _ => Nat.le_refl _, fun _ _ => rfl, fun _ => Nat.le_refl _, fun _ => Nat.le_succ _⟩
  | n + 1 => by
    have ih := rLoop_fair hg n
    refine ⟨fun s => ?_, fun s h => ?_, fun s => ?_, fun s => ?_⟩
    · rw [rLoop]
      split
      · exact Nat.le_refl _
      · exact Nat.le_trans (ih.len _) (hg.len s)
    · rw [rLoop] at h ⊢
      split
      · rfl
      · rename_i hc
        rw [if_neg hc] at h
        dsimp only at h ⊢
        rw [ih.dep _ h]
        refine hg.dep s ?_
        cases hb : (g s).2.bad with
        | false => rfl
        | true =>
          cases n with
          | zero => simp only [rLoop] at h; rw [hb] at h; cases h
          | succ n => rw [rLoop, if_pos hb] at h; dsimp only at h; rw [hb] at h; cases h
    · rw [rLoop]
      split
      · exact Nat.le_refl _
      · exact Nat.le_trans (hg.up s) (ih.up _)
    · rw [rLoop]
      split
      · exact Nat.le_succ _
      · dsimp only
        cases hb : (g s).2.bad with
        | false => have h1 := hg.dep s hb; have h2 := ih.top (g s).2; omega
        | true =>
          have h1 := hg.top s
          cases n with
          | zero => simp only [rLoop]; exact h1
          | succ n => rw [rLoop, if_pos hb]; exact h1
theorem rSome_fair {α : Type} {g : RS → α × RS} (hg : Fair g) : Fair (rSome g) :=
  ⟨fun s => Nat.le_trans ((rLoop_fair hg _).len _) (rCount_len s), fun s h => ((rLoop_fair hg _).dep _ h).trans (rCount_dep s), fun s => by have := (rLoop_fair hg (rCount s).1).up (rCount s).2; rw [rCount_dep] at this; exact this, fun s => by have := (rLoop_fair hg (rCount s).1).top (rCount s).2; rw [rCount_dep] at this; exact this⟩
theorem rVal_succ (f : Nat) (s : RS) (h : ¬ 40 < s.dep + 1) : (rVal (f + 1) s).2 = (rSome (rVal f) (rText (rInt (rByte s.up).2).2).2).2.down := by
  rw [rVal, if_neg h]
theorem rVal_stop (f : Nat) (s : RS) (h : 40 < s.dep + 1) : rVal (f + 1) s = (V.zero, s.up.fail) := by
  rw [rVal, if_pos h]
theorem rVal_fair : ∀ f, Fair (rVal f)
  | 0 => ⟨fun _ => Nat.le_refl _, fun _ h => (by cases h), fun _ => Nat.le_succ _, fun _ => Nat.le_refl _⟩
  | f + 1 => by
    have ih := rSome_fair (rVal_fair f)
    refine ⟨fun s => ?_, fun s h => ?_, fun s => ?_, fun s => ?_⟩
    · by_cases h : 40 < s.dep + 1
      · rw [rVal_stop f s h]; exact Nat.le_refl _
      · rw [rVal_succ f s h]
        have h1 := ih.len (rText (rInt (rByte s.up).2).2).2
        have h2 := rText_len (rInt (rByte s.up).2).2
        have h3 := rInt_len (rByte s.up).2
        have h4 := rByte_len s.up
        have h5 : s.up.l = s.l := rfl
        rw [h5] at h4
        simp only [RS.down]
        omega
    · have := ((rVal_ok (f + 1)) s _ _ rfl h).1
      exact (congrArg RS.dep this).symm
    · by_cases h : 40 < s.dep + 1
      · rw [rVal_stop f s h]; exact Nat.le_succ _
      · rw [rVal_succ f s h]
        have h1 := ih.up (rText (rInt (rByte s.up).2).2).2
        rw [rText_dep, rInt_dep, rByte_dep] at h1
        have h5 : s.up.dep = s.dep + 1 := rfl
        rw [h5] at h1
        simp only [RS.down]
        omega
    · by_cases h : 40 < s.dep + 1
      · rw [rVal_stop f s h]; exact Nat.le_refl _
      · rw [rVal_succ f s h]
        have h1 := ih.top (rText (rInt (rByte s.up).2).2).2
        rw [rText_dep, rInt_dep, rByte_dep] at h1
        have h5 : s.up.dep = s.dep + 1 := rfl
        rw [h5] at h1
        simp only [RS.down]
        omega
set_option maxRecDepth 100000 in
set_option maxHeartbeats 2000000 in
theorem someV_ag (b D : Nat) (g : RS → V × RS) (hfg : Fair g) (f : FuncId) (hg : ∀ s : RS, s.dep = D → s.l.length ≤ 1099511627776 → AG Try.prog f [.ptr 0 b 0] [rdB b s] (Gives b (g s).1.t (g s).2))
    (s : RS) (hs : s.dep = D) (hl : s.l.length ≤ 1099511627776) :
    AG Try.prog 164 [.ptr 0 b 0, .own 0 (bfn f b 0)] [rdB b s] (Gives b (V.row (rSome g s).1) (rSome g s).2) := by
  have hc := countR_ag b s
  have hcl := rCount_len s
  have hcn := rCount_le s
  have hcd := rCount_dep s
  unfold rSome
  generalize rCount s = p at *
  obtain ⟨n0, s0⟩ := p
  dsimp only at hc hcl hcn hcd ⊢
  refine ag_enter 1 tok Try.func164 Try.ntmps164 Try.results164 rfl (by kernel_rfl) rfl fun F => ?_
  repeat (first | refine gG ?_ | refine zAp (fun _ => ?_))
  refine zCallG [0] hc ?_
  rintro _ _ ⟨rfl, rfl⟩
  refine ⟨_, _, re_refl, rfl, rfl, ?_⟩
  repeat (first | refine gG ?_ | refine zAp (fun _ => ?_))
  refine x_own 5 24 4 rfl rfl rfl rfl rfl ?_
  refine x_loop [5, 6, 9, 10, 11, 12, 13, 14, 15, 16, 17, 18, 19, 20, 21, 22, 23, 24] (fun y : Nat × List V × Value × RS => [(6, .c (.lit (.int .i64 (y.1 : Int)))), (5, .own 1 y.2.2.1)]) (fun y => [rdB b y.2.2.2, .row y.2.2.1 24 4 y.2.1.length (V.all y.2.1)])
    (fun y => (y.2.2.2.bad = false → y.2.2.2.dep = D) ∧ (y.2.1 ++ (rLoop g y.1 y.2.2.2).1, (rLoop g y.1 y.2.2.2).2) = rLoop g n0 s0 ∧ y.2.1.length + y.1 ≤ 1099511627776 ∧ y.2.2.2.l.length ≤ 1099511627776) (fun y => y.1) (n0, [], .slice none 0 0, s0) ⟨fun _ => hcd.trans hs, by simp, by simp only [List.length_nil]; omega, by simp only; omega⟩ ⟨rfl, rfl, trivial⟩ rfl ?_
  rintro ⟨n, out, v, s'⟩ ⟨hd, hinv, hlen, hsl⟩
  dsimp only at hd hinv hlen hsl ⊢
  cases n with
  | zero =>
    have d1 : decide ((0 : Int) < ((0 : Nat) : Int)) = false := rfl
    simp only [rLoop, List.append_nil] at hinv
    refine x_fz 5 rfl rfl rfl rfl ?_
    repeat (first | refine gG ?_ | refine zAp (fun _ => ?_))
    refine zG ?_
    rw [← hinv]
    exact ⟨rfl, rfl⟩
  | succ n =>
    have d1 : decide ((0 : Int) < ((n + 1 : Nat) : Int)) = true := decide_eq_true (by omega)
    obtain ⟨l1, bad1, dp1⟩ := s'
    cases bad1
    · have hdd := hd rfl
      have hca := hg ⟨l1, false, dp1⟩ hdd hsl
      have hgl := hfg.len ⟨l1, false, dp1⟩
      have hgd := hfg.dep ⟨l1, false, dp1⟩
      simp only [rLoop, Bool.false_eq_true, if_false] at hinv
      dsimp only at hdd hgl hgd
      generalize g ⟨l1, false, dp1⟩ = q at *
      obtain ⟨⟨kv, nv, tv, lv⟩, s2⟩ := q
      dsimp only at hinv hca hgl hgd
      repeat (first | refine gG ?_ | refine zAp (fun _ => ?_))
      refine zCallGb [0] hca ?_
      rintro _ _ ⟨rfl, rfl⟩
      refine ⟨_, _, re_refl, rfl, rfl, ?_⟩
      repeat (first | refine gG ?_ | refine zAp (fun _ => ?_))
      refine lo_sub rfl rfl (r := (n : Int)) (by rw [IntWalk.i64_in _ (by omega)]; omega) ?_
      repeat (first | refine gG ?_ | refine zAp (fun _ => ?_))
      exact ⟨(n, out ++ [.mk kv nv tv lv], _, s2), ⟨fun h => (hgd h).trans hdd, by simpa using hinv, by simp only [List.length_append, List.length_cons, List.length_nil]; omega, by simp only at hsl ⊢; omega⟩, by simp only; omega, x_wkd 2 ⟨rfl, rfl, trivial⟩ (by simp only [V.all_app, V.all_one, List.length_append, List.length_cons, List.length_nil]; rfl) (by repeat (first | exact ag_refl | refine ag_upd rfl ?_ | refine ag_at rfl rfl ?_))⟩
    · simp only [rLoop, if_true, List.append_nil] at hinv
      refine x_fz 5 rfl rfl rfl rfl ?_
      repeat (first | refine gG ?_ | refine zAp (fun _ => ?_))
      refine zG ?_
      rw [← hinv]
      exact ⟨rfl, rfl⟩
end Go.Proofs.Ythgackidonocpaa
namespace Go.Proofs.Ythgackidonocpaa
open Go.RowKit
set_option maxRecDepth 100000 in
set_option maxHeartbeats 4000000 in
theorem valueR_ag (b : Nat) : ∀ (f : Nat) (s : RS), 40 ≤ s.dep + f → s.dep ≤ 1000 → s.l.length ≤ 1099511627776 → AG Try.prog 80 [.ptr 0 b 0] [rdB b s] (Gives b (rVal f s).1.t (rVal f s).2) := by
  intro f
  induction f with
  | zero =>
    intro s hf hd hl
    obtain ⟨l, bad, d⟩ := s
    dsimp only at hf hd hl
    have d1 : decide ((40 : Int) < ((d + 1 : Nat) : Int)) = true := decide_eq_true (by omega)
    refine AG.re (R := fun r hs => Re r (.c V.zero.t) ∧ hs = [rdB b (RS.mk l bad d).up.fail]) ?_ (fun r hs h => ⟨_, h.1, rfl, h.2⟩)
    refine ag_enter 1 tok Try.func80 Try.ntmps80 Try.results80 rfl (by kernel_rfl) rfl fun F => ?_
    repeat (first | refine gG ?_ | refine zAl (fun _ => ?_))
    refine zG ?_
    exact ⟨re_cls (by repeat (first | exact rzs_nil | apply rzs_cons | exact rz_c | exact rz_nil rfl | apply rz_agg | exact rz_own rfl | apply rz_fn | exact rz_ptr rfl | apply rz_tup)), rfl⟩
  | succ f ih =>
    intro s hf hd hl
    by_cases h40 : 40 < s.dep + 1
    · rw [rVal_stop f s h40]
      obtain ⟨l, bad, d⟩ := s
      dsimp only at hf hd hl h40
      have d1 : decide ((40 : Int) < ((d + 1 : Nat) : Int)) = true := decide_eq_true (by omega)
      refine AG.re (R := fun r hs => Re r (.c V.zero.t) ∧ hs = [rdB b (RS.mk l bad d).up.fail]) ?_ (fun r hs h => ⟨_, h.1, rfl, h.2⟩)
      refine ag_enter 1 tok Try.func80 Try.ntmps80 Try.results80 rfl (by kernel_rfl) rfl fun F => ?_
      repeat (first | refine gG ?_ | refine zAl (fun _ => ?_))
      refine zG ?_
      exact ⟨re_cls (by repeat (first | exact rzs_nil | apply rzs_cons | exact rz_c | exact rz_nil rfl | apply rz_agg | exact rz_own rfl | apply rz_fn | exact rz_ptr rfl | apply rz_tup)), rfl⟩
    · rw [rVal, if_neg h40]
      have c1 := byte_ag b s.up
      have l1 := rByte_len s.up
      have p1 := rByte_dep s.up
      generalize rByte s.up = q1 at *
      obtain ⟨k, s1⟩ := q1
      dsimp only at c1 l1 p1 ⊢
      have c2 := intR_ag b s1
      have l2 := rInt_len s1
      have p2 := rInt_dep s1
      generalize rInt s1 = q2 at *
      obtain ⟨n, s2⟩ := q2
      dsimp only at c2 l2 p2 ⊢
      have c3 := textR_ag b s2
      have l3 := rText_len s2
      have p3 := rText_dep s2
      generalize rText s2 = q3 at *
      obtain ⟨t, s3⟩ := q3
      dsimp only at c3 l3 p3 ⊢
      have hu : s.up.l = s.l := rfl
      have hp : s.up.dep = s.dep + 1 := rfl
      rw [hu] at l1
      have c4 := someV_ag b (s.dep + 1) (rVal f) (rVal_fair f) 80 (fun s' hs' hl' => ih s' (by omega) (by omega) hl') s3 (by omega) (by omega)
      have p4 := (rSome_fair (rVal_fair f)).up s3
      have p5 := (rSome_fair (rVal_fair f)).top s3
      generalize rSome (rVal f) s3 = q4 at *
      obtain ⟨a, s4⟩ := q4
      dsimp only at c4 p4 p5 ⊢
      have hdn : IntKind.i64.wrap ((s4.dep : Int) - 1) = ((s4.dep - 1 : Nat) : Int) := by rw [IntWalk.i64_in _ (by omega)]; omega
      obtain ⟨l, bad, d⟩ := s
      dsimp only at hf hd hl h40 p4
      have d1 : decide ((40 : Int) < ((d + 1 : Nat) : Int)) = false := decide_eq_false (by omega)
      refine AG.re (R := fun r hs => Re r (.c (V.mk k n (bs t) a).t) ∧ hs = [rdB b s4.down]) ?_ (fun r hs h => ⟨_, h.1, rfl, h.2⟩)
      refine ag_enter 1 tok Try.func80 Try.ntmps80 Try.results80 rfl (by kernel_rfl) rfl fun F => ?_
      repeat (first | refine gG ?_ | refine zAl (fun _ => ?_))
      rename_i b2
      refine x_join [21, 22, 23, 24, 25, 26, 27, 28, 29, 30, 31, 32, 33, 34, 35, 36, 37, 38, 39, 3] (fun b3 : Nat => [(3, .ptr 2 b3 0)]) (fun b3 => [rdB b s4, .box b2 24 [.c (.lit (.int .i64 0)), .c (.lit (.int .i64 0)), .c (.lit (.string ⟨#[]⟩)), .c (.lit (.slice none 0 0))], .box b3 24 [.c (.lit (.int .i64 (k : Int))), .c (.lit (.int .i64 n)), .c (.lit (.string (bs t))), .c (V.row a)]]) ?_ ?_
      rotate_left
      · skip
        refine ac_drawT [0, 0, 0, 2, 0, 0, 0, 2, 0, 0, 0, 2, 0, 0, 0, 0, 0, 2, 0, 3, 2] (.fork [0, 1, 2, 4, 5, 6, 8, 9, 10, 12, 13, 14, 15, 16] 3 (.fork [] 7 (.fork [] 11 (.fork [] 17 (.fin [18, 19, 20]) 19 (.fin [17, 18, 20])) 19 (.fin [11, 17, 18, 20])) 19 (.fin [7, 11, 17, 18, 20])) 19 (.fin [3, 7, 11, 17, 18, 20])) (by kernel_rfl) (by kernel_rfl) ?_
        refine wt_fork ?_
        refine gW ?_
        apply w_p; (focus exact rfl); (focus exact rfl); focus (intro _; (refine zMf ?_); exact det_refl)
        refine w_nil ?_
        refine ⟨?_, ?_⟩
        · apply w_l; (focus exact rfl); (focus exact rfl); (refine zCallG [0] c1 ?_; rintro _ _ ⟨rfl, rfl⟩; refine ⟨_, _, re_refl, rfl, rfl, ?_⟩)
          refine w_nil ?_
          refine wt_fork ?_
          refine w_nil ?_
          refine ⟨?_, ?_⟩
          · apply w_l; (focus exact rfl); (focus exact rfl); (refine zCallG [0] c2 ?_; rintro _ _ ⟨rfl, rfl⟩; refine ⟨_, _, re_refl, rfl, rfl, ?_⟩)
            refine w_nil ?_
            refine wt_fork ?_
            refine w_nil ?_
            refine ⟨?_, ?_⟩
            · apply w_l; (focus exact rfl); (focus exact rfl); (refine zCallG [0] c3 ?_; rintro _ _ ⟨rfl, rfl⟩; refine ⟨_, _, re_refl, rfl, rfl, ?_⟩)
              refine w_nil ?_
              refine wt_fork ?_
              refine w_nil ?_
              refine ⟨?_, ?_⟩
              · apply w_l; (focus exact rfl); (focus exact rfl); (refine zCallG [0] c4 ?_; rintro _ _ ⟨rfl, rfl⟩; refine ⟨_, _, re_refl, rfl, rfl, ?_⟩)
                refine w_nil ?_
                refine wt_fin ?_
                refine gW ?_
                apply w_a; (focus exact rfl); (focus exact rfl); refine v_alloc tok rfl rfl rfl (fun _ => rfl) (fun _ => ⟨⟨_, rfl⟩, ?_⟩)
                apply w_l; (focus exact rfl); (focus exact rfl); (first | (refine zkL ?_; first | refine zL1 ?_ | refine zL2 ?_ | refine zL3 ?_ | refine zLp ?_) | refine zM ?_ | (refine zkF ?_; first | refine zF1 ?_ | refine zF2 ?_ | refine zF3 ?_) | refine zA ?_ | (refine zkB ?_; first | refine zC5 ?_ | refine zC6 ?_ | refine zC1 ?_ | refine zC2 ?_ | refine zC3 ?_ | refine zC4 ?_ | refine zS5 ?_ | refine zS6 ?_ | refine zS1 ?_ | refine zS2 ?_ | refine zS3 ?_ | refine zS4 ?_ | refine zInc ?_ | refine zQ1 ?_ | refine zQ2 ?_ | refine zQ3 ?_ | refine zQ4 ?_ | refine zQ5 ?_ | refine zQ6 ?_) | (refine zkI ?_; first | refine zN1 (fun hlen => ?_) | refine zN2 (fun hlen => ?_) | refine zN3 ?_ | refine zN4 ?_ | refine zAp (fun _ => ?_)) | refine zS ?_ | refine zAl (fun _ => ?_) | refine zBx (fun _ => ?_) | refine zPt ?_ | refine zPf ?_ | refine zE ?_ | refine zEA ?_ | refine zNot ?_ | refine zBd ?_ | refine zBs ?_ | refine zFn ?_ | refine zK1 ?_ | refine zK2 ?_)
                refine w_nil ?_
                exact ⟨_, x_wkd 3 ⟨rfl, trivial⟩ rfl (by repeat (first | exact ag_refl | refine ag_upd rfl ?_ | refine ag_at rfl rfl ?_))⟩
              · apply w_a; (focus exact rfl); (focus exact rfl); refine v_alloc tok rfl rfl rfl (fun _ => rfl) (fun _ => ⟨⟨_, rfl⟩, ?_⟩)
                refine w_nil ?_
                refine wt_fin ?_
                apply w_l; (focus exact rfl); (focus exact rfl); (refine zCallG [0] c4 ?_; rintro _ _ ⟨rfl, rfl⟩; refine ⟨_, _, re_refl, rfl, rfl, ?_⟩)
                refine gW ?_
                apply w_l; (focus exact rfl); (focus exact rfl); (first | (refine zkL ?_; first | refine zL1 ?_ | refine zL2 ?_ | refine zL3 ?_ | refine zLp ?_) | refine zM ?_ | (refine zkF ?_; first | refine zF1 ?_ | refine zF2 ?_ | refine zF3 ?_) | refine zA ?_ | (refine zkB ?_; first | refine zC5 ?_ | refine zC6 ?_ | refine zC1 ?_ | refine zC2 ?_ | refine zC3 ?_ | refine zC4 ?_ | refine zS5 ?_ | refine zS6 ?_ | refine zS1 ?_ | refine zS2 ?_ | refine zS3 ?_ | refine zS4 ?_ | refine zInc ?_ | refine zQ1 ?_ | refine zQ2 ?_ | refine zQ3 ?_ | refine zQ4 ?_ | refine zQ5 ?_ | refine zQ6 ?_) | (refine zkI ?_; first | refine zN1 (fun hlen => ?_) | refine zN2 (fun hlen => ?_) | refine zN3 ?_ | refine zN4 ?_ | refine zAp (fun _ => ?_)) | refine zS ?_ | refine zAl (fun _ => ?_) | refine zBx (fun _ => ?_) | refine zPt ?_ | refine zPf ?_ | refine zE ?_ | refine zEA ?_ | refine zNot ?_ | refine zBd ?_ | refine zBs ?_ | refine zFn ?_ | refine zK1 ?_ | refine zK2 ?_)
                refine w_nil ?_
                exact ⟨_, x_wkd 3 ⟨rfl, trivial⟩ rfl (by repeat (first | exact ag_refl | refine ag_upd rfl ?_ | refine ag_at rfl rfl ?_))⟩
            · apply w_a; (focus exact rfl); (focus exact rfl); refine v_alloc tok rfl rfl rfl (fun _ => rfl) (fun _ => ⟨⟨_, rfl⟩, ?_⟩)
              refine w_nil ?_
              refine wt_fin ?_
              apply w_l; (focus exact rfl); (focus exact rfl); (refine zCallG [0] c3 ?_; rintro _ _ ⟨rfl, rfl⟩; refine ⟨_, _, re_refl, rfl, rfl, ?_⟩)
              apply w_l; (focus exact rfl); (focus exact rfl); (refine zCallG [0] c4 ?_; rintro _ _ ⟨rfl, rfl⟩; refine ⟨_, _, re_refl, rfl, rfl, ?_⟩)
              refine gW ?_
              apply w_l; (focus exact rfl); (focus exact rfl); (first | (refine zkL ?_; first | refine zL1 ?_ | refine zL2 ?_ | refine zL3 ?_ | refine zLp ?_) | refine zM ?_ | (refine zkF ?_; first | refine zF1 ?_ | refine zF2 ?_ | refine zF3 ?_) | refine zA ?_ | (refine zkB ?_; first | refine zC5 ?_ | refine zC6 ?_ | refine zC1 ?_ | refine zC2 ?_ | refine zC3 ?_ | refine zC4 ?_ | refine zS5 ?_ | refine zS6 ?_ | refine zS1 ?_ | refine zS2 ?_ | refine zS3 ?_ | refine zS4 ?_ | refine zInc ?_ | refine zQ1 ?_ | refine zQ2 ?_ | refine zQ3 ?_ | refine zQ4 ?_ | refine zQ5 ?_ | refine zQ6 ?_) | (refine zkI ?_; first | refine zN1 (fun hlen => ?_) | refine zN2 (fun hlen => ?_) | refine zN3 ?_ | refine zN4 ?_ | refine zAp (fun _ => ?_)) | refine zS ?_ | refine zAl (fun _ => ?_) | refine zBx (fun _ => ?_) | refine zPt ?_ | refine zPf ?_ | refine zE ?_ | refine zEA ?_ | refine zNot ?_ | refine zBd ?_ | refine zBs ?_ | refine zFn ?_ | refine zK1 ?_ | refine zK2 ?_)
              refine w_nil ?_
              exact ⟨_, x_wkd 3 ⟨rfl, trivial⟩ rfl (by repeat (first | exact ag_refl | refine ag_upd rfl ?_ | refine ag_at rfl rfl ?_))⟩
          · apply w_a; (focus exact rfl); (focus exact rfl); refine v_alloc tok rfl rfl rfl (fun _ => rfl) (fun _ => ⟨⟨_, rfl⟩, ?_⟩)
            refine w_nil ?_
            refine wt_fin ?_
            apply w_l; (focus exact rfl); (focus exact rfl); (refine zCallG [0] c2 ?_; rintro _ _ ⟨rfl, rfl⟩; refine ⟨_, _, re_refl, rfl, rfl, ?_⟩)
            apply w_l; (focus exact rfl); (focus exact rfl); (refine zCallG [0] c3 ?_; rintro _ _ ⟨rfl, rfl⟩; refine ⟨_, _, re_refl, rfl, rfl, ?_⟩)
            apply w_l; (focus exact rfl); (focus exact rfl); (refine zCallG [0] c4 ?_; rintro _ _ ⟨rfl, rfl⟩; refine ⟨_, _, re_refl, rfl, rfl, ?_⟩)
            refine gW ?_
            apply w_l; (focus exact rfl); (focus exact rfl); (first | (refine zkL ?_; first | refine zL1 ?_ | refine zL2 ?_ | refine zL3 ?_ | refine zLp ?_) | refine zM ?_ | (refine zkF ?_; first | refine zF1 ?_ | refine zF2 ?_ | refine zF3 ?_) | refine zA ?_ | (refine zkB ?_; first | refine zC5 ?_ | refine zC6 ?_ | refine zC1 ?_ | refine zC2 ?_ | refine zC3 ?_ | refine zC4 ?_ | refine zS5 ?_ | refine zS6 ?_ | refine zS1 ?_ | refine zS2 ?_ | refine zS3 ?_ | refine zS4 ?_ | refine zInc ?_ | refine zQ1 ?_ | refine zQ2 ?_ | refine zQ3 ?_ | refine zQ4 ?_ | refine zQ5 ?_ | refine zQ6 ?_) | (refine zkI ?_; first | refine zN1 (fun hlen => ?_) | refine zN2 (fun hlen => ?_) | refine zN3 ?_ | refine zN4 ?_ | refine zAp (fun _ => ?_)) | refine zS ?_ | refine zAl (fun _ => ?_) | refine zBx (fun _ => ?_) | refine zPt ?_ | refine zPf ?_ | refine zE ?_ | refine zEA ?_ | refine zNot ?_ | refine zBd ?_ | refine zBs ?_ | refine zFn ?_ | refine zK1 ?_ | refine zK2 ?_)
            refine w_nil ?_
            exact ⟨_, x_wkd 3 ⟨rfl, trivial⟩ rfl (by repeat (first | exact ag_refl | refine ag_upd rfl ?_ | refine ag_at rfl rfl ?_))⟩
        · apply w_a; (focus exact rfl); (focus exact rfl); refine v_alloc tok rfl rfl rfl (fun _ => rfl) (fun _ => ⟨⟨_, rfl⟩, ?_⟩)
          refine w_nil ?_
          refine wt_fin ?_
          apply w_l; (focus exact rfl); (focus exact rfl); (refine zCallG [0] c1 ?_; rintro _ _ ⟨rfl, rfl⟩; refine ⟨_, _, re_refl, rfl, rfl, ?_⟩)
          apply w_l; (focus exact rfl); (focus exact rfl); (refine zCallG [0] c2 ?_; rintro _ _ ⟨rfl, rfl⟩; refine ⟨_, _, re_refl, rfl, rfl, ?_⟩)
          apply w_l; (focus exact rfl); (focus exact rfl); (refine zCallG [0] c3 ?_; rintro _ _ ⟨rfl, rfl⟩; refine ⟨_, _, re_refl, rfl, rfl, ?_⟩)
          apply w_l; (focus exact rfl); (focus exact rfl); (refine zCallG [0] c4 ?_; rintro _ _ ⟨rfl, rfl⟩; refine ⟨_, _, re_refl, rfl, rfl, ?_⟩)
          refine gW ?_
          apply w_l; (focus exact rfl); (focus exact rfl); (first | (refine zkL ?_; first | refine zL1 ?_ | refine zL2 ?_ | refine zL3 ?_ | refine zLp ?_) | refine zM ?_ | (refine zkF ?_; first | refine zF1 ?_ | refine zF2 ?_ | refine zF3 ?_) | refine zA ?_ | (refine zkB ?_; first | refine zC5 ?_ | refine zC6 ?_ | refine zC1 ?_ | refine zC2 ?_ | refine zC3 ?_ | refine zC4 ?_ | refine zS5 ?_ | refine zS6 ?_ | refine zS1 ?_ | refine zS2 ?_ | refine zS3 ?_ | refine zS4 ?_ | refine zInc ?_ | refine zQ1 ?_ | refine zQ2 ?_ | refine zQ3 ?_ | refine zQ4 ?_ | refine zQ5 ?_ | refine zQ6 ?_) | (refine zkI ?_; first | refine zN1 (fun hlen => ?_) | refine zN2 (fun hlen => ?_) | refine zN3 ?_ | refine zN4 ?_ | refine zAp (fun _ => ?_)) | refine zS ?_ | refine zAl (fun _ => ?_) | refine zBx (fun _ => ?_) | refine zPt ?_ | refine zPf ?_ | refine zE ?_ | refine zEA ?_ | refine zNot ?_ | refine zBd ?_ | refine zBs ?_ | refine zFn ?_ | refine zK1 ?_ | refine zK2 ?_)
          refine w_nil ?_
          exact ⟨_, x_wkd 3 ⟨rfl, trivial⟩ rfl (by repeat (first | exact ag_refl | refine ag_upd rfl ?_ | refine ag_at rfl rfl ?_))⟩
      intro b3
      repeat (first | refine gG ?_ | refine zAl (fun _ => ?_))
      refine lo_sub rfl rfl hdn ?_
      repeat (first | refine gG ?_ | refine zAl (fun _ => ?_))
      refine zG ?_
      exact ⟨re_cls (by repeat (first | exact rzs_nil | apply rzs_cons | exact rz_c | exact rz_nil rfl | apply rz_agg | exact rz_own rfl | apply rz_fn | exact rz_ptr rfl | apply rz_tup)), rfl⟩
end Go.Proofs.Ythgackidonocpaa
namespace Go.Proofs.Ythgackidonocpaa
open Go.RowKit
def lfB (c : Nat) (m : Int) : Blk := .box c 3 [.c (.lit (.int .i64 m))]
def Takes2 (b c : Nat) (t : T) (p : TS × Int) (r : AV) (hs : List Blk) : Prop := r = .c t ∧ hs = [tkB b p.1, lfB c p.2]
set_option maxRecDepth 100000 in
set_option maxHeartbeats 4000000 in
theorem tvalue_ag (b c : Nat) : ∀ (d : Nat) (s : TS) (m : Int), d ≤ 40 → 0 ≤ m → m ≤ 400 → AG Try.prog 165 [.ptr 0 b 0, .ptr 1 c 0, .c (.lit (.int .i64 (d : Int)))] [tkB b s, lfB c m] (Takes2 b c (tVal d s m).1.t (tVal d s m).2) := by
  intro d
  induction d with
  | zero =>
    intro s m hd hm hm'
    obtain ⟨l, ok⟩ := s
    refine AG.re (R := fun r hs => Re r (.c V.zero.t) ∧ hs = [tkB b (TS.mk l ok).fail, lfB c (m - 1)]) ?_ (fun r hs h => ⟨_, h.1, rfl, h.2⟩)
    refine ag_enter 2 tok Try.func165 Try.ntmps165 Try.results165 rfl (by kernel_rfl) rfl fun F => ?_
    cases d1 : decide (m - 1 < 0)
    · repeat (first | refine gG ?_ | refine zAl (fun _ => ?_) | refine zAp (fun _ => ?_))
      refine zSub ?_
      repeat (first | refine gG ?_ | refine zAl (fun _ => ?_) | refine zAp (fun _ => ?_))
      refine zG ?_
      exact ⟨re_cls (by repeat (first | exact rzs_nil | apply rzs_cons | exact rz_c | exact rz_nil rfl | apply rz_agg | exact rz_own rfl | apply rz_fn | exact rz_ptr rfl | apply rz_tup)), rfl⟩
    · repeat (first | refine gG ?_ | refine zAl (fun _ => ?_) | refine zAp (fun _ => ?_))
      refine zSub ?_
      repeat (first | refine gG ?_ | refine zAl (fun _ => ?_) | refine zAp (fun _ => ?_))
      refine zG ?_
      exact ⟨re_cls (by repeat (first | exact rzs_nil | apply rzs_cons | exact rz_c | exact rz_nil rfl | apply rz_agg | exact rz_own rfl | apply rz_fn | exact rz_ptr rfl | apply rz_tup)), rfl⟩
  | succ d ih =>
    intro s m hd hm hm'
    have e1 : decide (((d + 1 : Nat) : Int) < 1) = false := decide_eq_false (by omega)
    rw [tVal]
    by_cases h0 : m - 1 < 0
    · rw [if_pos h0]
      have d1 : decide (m - 1 < 0) = true := decide_eq_true h0
      obtain ⟨l, ok⟩ := s
      refine AG.re (R := fun r hs => Re r (.c V.zero.t) ∧ hs = [tkB b (TS.mk l ok).fail, lfB c (m - 1)]) ?_ (fun r hs h => ⟨_, h.1, rfl, h.2⟩)
      refine ag_enter 2 tok Try.func165 Try.ntmps165 Try.results165 rfl (by kernel_rfl) rfl fun F => ?_
      repeat (first | refine gG ?_ | refine zAl (fun _ => ?_) | refine zAp (fun _ => ?_))
      refine zSub ?_
      repeat (first | refine gG ?_ | refine zAl (fun _ => ?_) | refine zAp (fun _ => ?_))
      refine zG ?_
      exact ⟨re_cls (by repeat (first | exact rzs_nil | apply rzs_cons | exact rz_c | exact rz_nil rfl | apply rz_agg | exact rz_own rfl | apply rz_fn | exact rz_ptr rfl | apply rz_tup)), rfl⟩
    · rw [if_neg h0]
      have d1 : decide (m - 1 < 0) = false := decide_eq_false h0
      by_cases hok : s.ok = false
      · rw [if_pos hok]
        obtain ⟨l, ok⟩ := s
        dsimp only at hok
        subst hok
        refine AG.re (R := fun r hs => Re r (.c V.zero.t) ∧ hs = [tkB b (TS.mk l false), lfB c (m - 1)]) ?_ (fun r hs h => ⟨_, h.1, rfl, h.2⟩)
        refine ag_enter 2 tok Try.func165 Try.ntmps165 Try.results165 rfl (by kernel_rfl) rfl fun F => ?_
        repeat (first | refine gG ?_ | refine zAl (fun _ => ?_) | refine zAp (fun _ => ?_))
        refine zSub ?_
        repeat (first | refine gG ?_ | refine zAl (fun _ => ?_) | refine zAp (fun _ => ?_))
        refine zG ?_
        exact ⟨re_cls (by repeat (first | exact rzs_nil | apply rzs_cons | exact rz_c | exact rz_nil rfl | apply rz_agg | exact rz_own rfl | apply rz_fn | exact rz_ptr rfl | apply rz_tup)), rfl⟩
      · rw [if_neg hok]
        have c1 := one_ag b s
        generalize tOne s = q1 at *
        obtain ⟨k, s1⟩ := q1
        dsimp only at c1 ⊢
        have c2 := tnum_ag b s1
        generalize tNum s1 = q2 at *
        obtain ⟨n, s2⟩ := q2
        dsimp only at c2 ⊢
        have c3 := ttext_ag b s2
        generalize tText s2 = q3 at *
        obtain ⟨t, s3⟩ := q3
        dsimp only at c3 ⊢
        have c4 := tnat_ag b s3
        have hn4 : (tNat s3).1 ≤ 9223372036854775807 := tNat_lt s3
        generalize tNat s3 = q4 at *
        obtain ⟨n0, s4⟩ := q4
        dsimp only at c4 hn4 ⊢
        have hfg := tVal_fair d
        obtain ⟨l, ok⟩ := s
        cases ok
        · simp at hok
        refine AG.re (R := fun r hs => Re r (.c (V.mk k n (bs t) (tLoop (tVal d) n0 s4 (m - 1)).1).t) ∧ hs = [tkB b (tLoop (tVal d) n0 s4 (m - 1)).2.1, lfB c (tLoop (tVal d) n0 s4 (m - 1)).2.2]) ?_ (fun r hs h => ⟨_, h.1, rfl, h.2⟩)
        refine ag_enter 2 tok Try.func165 Try.ntmps165 Try.results165 rfl (by kernel_rfl) rfl fun F => ?_
        repeat (first | refine gG ?_ | refine zAl (fun _ => ?_) | refine zAp (fun _ => ?_))
        refine zSub ?_
        repeat (first | refine gG ?_ | refine zAl (fun _ => ?_) | refine zAp (fun _ => ?_))
        refine zCallG [0] c1 ?_
        rintro _ _ ⟨rfl, rfl⟩
        refine ⟨_, _, re_refl, rfl, rfl, ?_⟩
        repeat (first | refine gG ?_ | refine zAl (fun _ => ?_) | refine zAp (fun _ => ?_))
        refine zCallG [0] c2 ?_
        rintro _ _ ⟨rfl, rfl⟩
        refine ⟨_, _, re_refl, rfl, rfl, ?_⟩
        repeat (first | refine gG ?_ | refine zAl (fun _ => ?_) | refine zAp (fun _ => ?_))
        refine zCallG [0] c3 ?_
        rintro _ _ ⟨rfl, rfl⟩
        refine ⟨_, _, re_refl, rfl, rfl, ?_⟩
        repeat (first | refine gG ?_ | refine zAl (fun _ => ?_) | refine zAp (fun _ => ?_))
        refine zCallG [0] c4 ?_
        rintro _ _ ⟨rfl, rfl⟩
        refine ⟨_, _, re_refl, rfl, rfl, ?_⟩
        repeat (first | refine gG ?_ | refine zAl (fun _ => ?_) | refine zAp (fun _ => ?_))
        rename_i b2 b3
        refine x_own_cell 3 3 24 4 rfl rfl rfl rfl rfl rfl ?_
        refine x_loop [8, 42, 43, 44, 45, 46, 47, 48, 49, 50, 51, 52, 53, 54, 55, 56, 57, 58, 59, 60, 61] (fun y : Nat × List V × Value × TS × Int => [(8, .c (.lit (.int .i64 (y.1 : Int))))]) (fun y => [tkB b y.2.2.2.1, lfB c y.2.2.2.2, .box b2 24 [.c (.lit (.int .i64 0)), .c (.lit (.int .i64 0)), .c (.lit (.string ⟨#[]⟩)), .c (.lit (.slice none 0 0))], .box b3 24 [.c (.lit (.int .i64 (k : Int))), .c (.lit (.int .i64 n)), .c (.lit (.string (bs t))), .own 4 y.2.2.1], .row y.2.2.1 24 4 y.2.1.length (V.all y.2.1)])
          (fun y => -1 ≤ y.2.2.2.2 ∧ (y.2.2.2.1.ok = true → 0 ≤ y.2.2.2.2) ∧ (V.sizes y.2.1 : Int) + y.2.2.2.2 ≤ m ∧ y.1 ≤ 9223372036854775807 ∧ (y.2.1 ++ (tLoop (tVal d) y.1 y.2.2.2.1 y.2.2.2.2).1, (tLoop (tVal d) y.1 y.2.2.2.1 y.2.2.2.2).2) = tLoop (tVal d) n0 s4 (m - 1)) (fun y => y.1) (n0, [], .slice none 0 0, s4, m - 1) ⟨by simp only; omega, fun _ => by simp only; omega, by simp only [V.sizes]; omega, hn4, by simp⟩ ⟨rfl, trivial⟩ rfl ?_
        rintro ⟨j, out, v, s', m'⟩ ⟨h1, h2, h3, h4, hinv⟩
        dsimp only at h1 h2 h3 h4 hinv ⊢
        have hol := V.len_sizes out
        cases j with
        | zero =>
          have d2 : decide ((0 : Int) < ((0 : Nat) : Int)) = false := rfl
          simp only [tLoop, List.append_nil] at hinv
          refine x_fzc 3 3 ?_
          repeat (first | refine gG ?_ | refine zAl (fun _ => ?_) | refine zAp (fun _ => ?_))
          refine zG ?_
          rw [← hinv]
          exact ⟨re_cls (by repeat (first | exact rzs_nil | apply rzs_cons | exact rz_c | exact rz_nil rfl | apply rz_agg | exact rz_own rfl | apply rz_fn | exact rz_ptr rfl | apply rz_tup)), rfl⟩
        | succ j =>
          have d2 : decide ((0 : Int) < ((j + 1 : Nat) : Int)) = true := decide_eq_true (by omega)
          obtain ⟨l1, ok1⟩ := s'
          cases ok1
          · simp only [tLoop, Bool.false_eq_true, if_false, List.append_nil] at hinv
            refine x_fzc 3 3 ?_
            repeat (first | refine gG ?_ | refine zAl (fun _ => ?_) | refine zAp (fun _ => ?_))
            refine zG ?_
            rw [← hinv]
            exact ⟨re_cls (by repeat (first | exact rzs_nil | apply rzs_cons | exact rz_c | exact rz_nil rfl | apply rz_agg | exact rz_own rfl | apply rz_fn | exact rz_ptr rfl | apply rz_tup)), rfl⟩
          · have hm0 := h2 rfl
            have hca := ih ⟨l1, true⟩ m' (by omega) hm0 (by omega)
            obtain ⟨-, g2, g3, g4, -⟩ := hfg.fair ⟨l1, true⟩ m' hm0
            simp only [tLoop, if_true] at hinv
            generalize tVal d ⟨l1, true⟩ m' = q at *
            obtain ⟨⟨kv, nv, tv, lv⟩, s2', m2⟩ := q
            dsimp only at hinv hca g2 g3 g4
            repeat (first | refine gG ?_ | refine zAl (fun _ => ?_) | refine zAp (fun _ => ?_))
            refine ac_drawT [0, 2, 0, 0, 0, 0, 2, 0, 2, 0, 2] (.fork [0, 2, 3, 4, 5] 1 (.fin [6, 7, 8, 9, 10]) 6 (.fin [7, 1, 8, 9, 10])) (by kernel_rfl) (by kernel_rfl) ?_
            refine wt_fork ?_
            refine gW ?_
            apply w_p; (focus exact rfl); (focus exact rfl); focus (intro _; (refine lo_sub rfl rfl (r := (d : Int)) (by rw [IntWalk.i64_in _ (by omega)]; omega) ?_); exact det_refl)
            refine w_nil ?_
            refine ⟨?_, ?_⟩
            · apply w_l; (focus exact rfl); (focus exact rfl); (first | refine zL1 ?_ | refine zL2 ?_ | refine zL3 ?_ | refine zLp ?_)
              refine w_nil ?_
              refine wt_fin ?_
              apply w_l; (focus exact rfl); (focus exact rfl); (refine zCallG [0, 1] hca ?_; rintro _ _ ⟨rfl, rfl⟩; refine ⟨_, _, re_refl, rfl, rfl, ?_⟩)
              refine gW ?_
              apply w_l; (focus exact rfl); (focus exact rfl); (first | (refine zkL ?_; first | refine zL1 ?_ | refine zL2 ?_ | refine zL3 ?_ | refine zLp ?_) | refine zM ?_ | (refine zkF ?_; first | refine zF1 ?_ | refine zF2 ?_ | refine zF3 ?_) | refine zA ?_ | (refine zkB ?_; first | refine zC5 ?_ | refine zC6 ?_ | refine zC1 ?_ | refine zC2 ?_ | refine zC3 ?_ | refine zC4 ?_ | refine zS5 ?_ | refine zS6 ?_ | refine zS1 ?_ | refine zS2 ?_ | refine zS3 ?_ | refine zS4 ?_ | refine zInc ?_ | refine zQ1 ?_ | refine zQ2 ?_ | refine zQ3 ?_ | refine zQ4 ?_ | refine zQ5 ?_ | refine zQ6 ?_) | (refine zkI ?_; first | refine zN1 (fun hlen => ?_) | refine zN2 (fun hlen => ?_) | refine zN3 ?_ | refine zN4 ?_ | refine zAp (fun _ => ?_)) | refine zS ?_ | refine zAl (fun _ => ?_) | refine zBx (fun _ => ?_) | refine zPt ?_ | refine zPf ?_ | refine zE ?_ | refine zEA ?_ | refine zNot ?_ | refine zBd ?_ | refine zBs ?_ | refine zFn ?_ | refine zK1 ?_ | refine zK2 ?_)
              refine gW ?_
              apply w_l; (focus exact rfl); (focus exact rfl); (first | (refine zkL ?_; first | refine zL1 ?_ | refine zL2 ?_ | refine zL3 ?_ | refine zLp ?_) | refine zM ?_ | (refine zkF ?_; first | refine zF1 ?_ | refine zF2 ?_ | refine zF3 ?_) | refine zA ?_ | (refine zkB ?_; first | refine zC5 ?_ | refine zC6 ?_ | refine zC1 ?_ | refine zC2 ?_ | refine zC3 ?_ | refine zC4 ?_ | refine zS5 ?_ | refine zS6 ?_ | refine zS1 ?_ | refine zS2 ?_ | refine zS3 ?_ | refine zS4 ?_ | refine zInc ?_ | refine zQ1 ?_ | refine zQ2 ?_ | refine zQ3 ?_ | refine zQ4 ?_ | refine zQ5 ?_ | refine zQ6 ?_) | (refine zkI ?_; first | refine zN1 (fun hlen => ?_) | refine zN2 (fun hlen => ?_) | refine zN3 ?_ | refine zN4 ?_ | refine zAp (fun _ => ?_)) | refine zS ?_ | refine zAl (fun _ => ?_) | refine zBx (fun _ => ?_) | refine zPt ?_ | refine zPf ?_ | refine zE ?_ | refine zEA ?_ | refine zNot ?_ | refine zBd ?_ | refine zBs ?_ | refine zFn ?_ | refine zK1 ?_ | refine zK2 ?_)
              refine w_nil ?_
              repeat (first | refine gG ?_ | refine zAl (fun _ => ?_) | refine zAp (fun _ => ?_))
              refine lo_sub rfl rfl (r := (j : Int)) (by rw [IntWalk.i64_in _ (by omega)]; omega) ?_
              repeat (first | refine gG ?_ | refine zAl (fun _ => ?_) | refine zAp (fun _ => ?_))
              exact ⟨(j, out ++ [.mk kv nv tv lv], _, s2', m2), ⟨g3, g4, by simp only [V.sizes_app, V.sizes]; omega, by simp only; omega, by simpa using hinv⟩, by simp only; omega, x_wkd 5 ⟨rfl, trivial⟩ (by simp only [V.all_app, V.all_one, List.length_append, List.length_cons, List.length_nil]; rfl) (by repeat (first | exact ag_refl | refine ag_upd rfl ?_ | refine ag_at rfl rfl ?_))⟩
            · apply w_l; (focus exact rfl); (focus exact rfl); (refine zCallG [0, 1] hca ?_; rintro _ _ ⟨rfl, rfl⟩; refine ⟨_, _, re_refl, rfl, rfl, ?_⟩)
              refine w_nil ?_
              refine wt_fin ?_
              refine gW ?_
              apply w_l; (focus exact rfl); (focus exact rfl); (first | refine zL1 ?_ | refine zL2 ?_ | refine zL3 ?_ | refine zLp ?_)
              apply w_l; (focus exact rfl); (focus exact rfl); (first | (refine zkL ?_; first | refine zL1 ?_ | refine zL2 ?_ | refine zL3 ?_ | refine zLp ?_) | refine zM ?_ | (refine zkF ?_; first | refine zF1 ?_ | refine zF2 ?_ | refine zF3 ?_) | refine zA ?_ | (refine zkB ?_; first | refine zC5 ?_ | refine zC6 ?_ | refine zC1 ?_ | refine zC2 ?_ | refine zC3 ?_ | refine zC4 ?_ | refine zS5 ?_ | refine zS6 ?_ | refine zS1 ?_ | refine zS2 ?_ | refine zS3 ?_ | refine zS4 ?_ | refine zInc ?_ | refine zQ1 ?_ | refine zQ2 ?_ | refine zQ3 ?_ | refine zQ4 ?_ | refine zQ5 ?_ | refine zQ6 ?_) | (refine zkI ?_; first | refine zN1 (fun hlen => ?_) | refine zN2 (fun hlen => ?_) | refine zN3 ?_ | refine zN4 ?_ | refine zAp (fun _ => ?_)) | refine zS ?_ | refine zAl (fun _ => ?_) | refine zBx (fun _ => ?_) | refine zPt ?_ | refine zPf ?_ | refine zE ?_ | refine zEA ?_ | refine zNot ?_ | refine zBd ?_ | refine zBs ?_ | refine zFn ?_ | refine zK1 ?_ | refine zK2 ?_)
              refine gW ?_
              apply w_l; (focus exact rfl); (focus exact rfl); (first | (refine zkL ?_; first | refine zL1 ?_ | refine zL2 ?_ | refine zL3 ?_ | refine zLp ?_) | refine zM ?_ | (refine zkF ?_; first | refine zF1 ?_ | refine zF2 ?_ | refine zF3 ?_) | refine zA ?_ | (refine zkB ?_; first | refine zC5 ?_ | refine zC6 ?_ | refine zC1 ?_ | refine zC2 ?_ | refine zC3 ?_ | refine zC4 ?_ | refine zS5 ?_ | refine zS6 ?_ | refine zS1 ?_ | refine zS2 ?_ | refine zS3 ?_ | refine zS4 ?_ | refine zInc ?_ | refine zQ1 ?_ | refine zQ2 ?_ | refine zQ3 ?_ | refine zQ4 ?_ | refine zQ5 ?_ | refine zQ6 ?_) | (refine zkI ?_; first | refine zN1 (fun hlen => ?_) | refine zN2 (fun hlen => ?_) | refine zN3 ?_ | refine zN4 ?_ | refine zAp (fun _ => ?_)) | refine zS ?_ | refine zAl (fun _ => ?_) | refine zBx (fun _ => ?_) | refine zPt ?_ | refine zPf ?_ | refine zE ?_ | refine zEA ?_ | refine zNot ?_ | refine zBd ?_ | refine zBs ?_ | refine zFn ?_ | refine zK1 ?_ | refine zK2 ?_)
              refine w_nil ?_
              repeat (first | refine gG ?_ | refine zAl (fun _ => ?_) | refine zAp (fun _ => ?_))
              refine lo_sub rfl rfl (r := (j : Int)) (by rw [IntWalk.i64_in _ (by omega)]; omega) ?_
              repeat (first | refine gG ?_ | refine zAl (fun _ => ?_) | refine zAp (fun _ => ?_))
              exact ⟨(j, out ++ [.mk kv nv tv lv], _, s2', m2), ⟨g3, g4, by simp only [V.sizes_app, V.sizes]; omega, by simp only; omega, by simpa using hinv⟩, by simp only; omega, x_wkd 5 ⟨rfl, trivial⟩ (by simp only [V.all_app, V.all_one, List.length_append, List.length_cons, List.length_nil]; rfl) (by repeat (first | exact ag_refl | refine ag_upd rfl ?_ | refine ag_at rfl rfl ?_))⟩
end Go.Proofs.Ythgackidonocpaa
namespace Go.Proofs.Ythgackidonocpaa
open Go.RowKit
def tWhole (s : TS) : V × TS := ((tVal 40 s 400).1, (tVal 40 s 400).2.1)
set_option maxRecDepth 100000 in
set_option maxHeartbeats 4000000 in
theorem whole_ag (b : Nat) (s : TS) : AG Try.prog 81 [.ptr 0 b 0] [tkB b s] (Takes b (tWhole s).1.t (tWhole s).2) := by
  have hc := fun c => tvalue_ag b c 40 s 400 (by omega) (by omega) (by omega)
  unfold tWhole
  generalize tVal 40 s 400 = q at *
  obtain ⟨⟨k, n, t, a⟩, s', m'⟩ := q
  dsimp only at hc ⊢
  refine AG.re (R := fun r hs => Re r (.c (V.mk k n t a).t) ∧ hs = [tkB b s']) ?_ (fun r hs h => ⟨_, h.1, rfl, h.2⟩)
  refine ag_enter 1 tok Try.func81 Try.ntmps81 Try.results81 rfl (by kernel_rfl) rfl fun F => ?_
  repeat (first | refine gG ?_ | refine zAl (fun _ => ?_))
  refine zCallG [0, 2] (hc _) ?_
  rintro _ _ ⟨rfl, rfl⟩
  refine ⟨_, _, re_refl, rfl, rfl, ?_⟩
  repeat (first | refine gG ?_ | refine zAl (fun _ => ?_))
  refine zG ?_
  exact ⟨re_cls (by repeat (first | exact rzs_nil | apply rzs_cons | exact rz_c | exact rz_nil rfl | apply rz_agg | exact rz_own rfl | apply rz_fn | exact rz_ptr rfl | apply rz_tup)), rfl⟩
mutual
theorem V.bytes_len2 : ∀ v : V, v.ok → v.size ≤ 1048576 → v.txt ≤ 1099511627776 → v.bytes.length ≤ 32 * v.size + v.txt
  | .mk k n t l, ho, hs, ht => by
    simp only [V.ok, V.size, V.txt] at ho hs ht
    have h1 := uv_len64 (zz_lt ho.1)
    have h2 := uv_len64 (n := t.size) (by omega)
    have h3 := uv_len64 (n := l.length) (by have := V.len_sizes l; omega)
    have h4 := V.bytesAll_len2 l ho.2 (by omega) (by omega)
    simp only [V.bytes, V.size, V.txt, List.length_cons, List.length_append, sz_len]
    omega
theorem V.bytesAll_len2 : ∀ l : List V, V.oks l → V.sizes l ≤ 1048576 → V.txts l ≤ 1099511627776 → (V.bytesAll l).length ≤ 32 * V.sizes l + V.txts l
  | [], _, _, _ => by simp [V.bytesAll]
  | v :: l, ho, hs, ht => by
    simp only [V.oks, V.sizes, V.txts] at ho hs ht
    have h1 := V.bytes_len2 v ho.1 (by omega) (by omega)
    have h2 := V.bytesAll_len2 l ho.2 (by omega) (by omega)
    simp only [V.bytesAll, V.sizes, V.txts, List.length_append]
    omega
end
theorem rVal_ok' (f : Nat) (s : RS) (h : (rVal f s).2.bad = false) : s = ⟨(rVal f s).1.bytes ++ (rVal f s).2.l, false, (rVal f s).2.dep⟩ ∧ (rVal f s).1.ok ∧ (rVal f s).1.kin := rVal_ok f s (rVal f s).1 (rVal f s).2 rfl h
/-- what the taker takes is small -/
theorem tWhole_fair (s : TS) : (tWhole s).1.ok ∧ (tWhole s).1.size ≤ 401 ∧ (tWhole s).1.bytes.length ≤ 1700000 := by
  obtain ⟨h1, h2, h3, _, h5⟩ := (tVal_fair 40).fair s 400 (by omega)
  have h6 : (tWhole s).1.size ≤ 401 := by unfold tWhole; dsimp only; omega
  refine ⟨h1, h6, ?_⟩
  have h7 := V.bytes_len2 (tWhole s).1 h1 (by omega) (by unfold tWhole at h6 ⊢; dsimp only at h6 ⊢; omega)
  unfold tWhole at h6 h7 ⊢
  dsimp only at h6 h7 ⊢
  omega
theorem every_imp {p q : V → Nat → Bool} (v : V) : ∀ (d e : Nat), (∀ x i j, j + d = i + e → p x i = true → q x j = true) → v.every p d = true → v.every q e = true := by
  induction v using V.ind with
  | h k n t l ih =>
    intro d e h hv
    rw [V.every, V.everys_eq, Bool.and_eq_true, List.all_eq_true] at hv ⊢
    exact ⟨h _ d e (by omega) hv.1, fun x hx => ih x hx (d + 1) (e + 1) (fun x i j hij => h x i j (by omega)) (hv.2 x hx)⟩
theorem kin_of {v : V} : ∀ {d : Nat}, v.every formP d = true → v.kin := by
  induction v using V.ind with
  | h k n t l ih =>
    intro d hv
    rw [V.every, V.everys_eq, Bool.and_eq_true, List.all_eq_true] at hv
    simp only [V.kin]
    refine ⟨?_, (V.kins_iff l).2 fun x hx => ih x hx (hv.2 x hx)⟩
    have h := hv.1
    simp only [formP, formN] at h
    split at h
    · omega
    split at h
    · omega
    split at h
    · omega
    split at h
    · omega
    split at h
    · omega
    split at h
    · omega
    split at h
    · omega
    split at h
    · omega
    · cases h
theorem check_ok {v : V} (h : v.check = 0) : v.size ≤ 400 ∧ v.low 1 = true ∧ v.every (fun x _ => decide (x.text.size ≤ 4000)) 1 = true ∧ v.kin := by
  unfold V.check at h
  split at h
  · rename_i h1
    split at h
    · rename_i h2
      simp only [V.fitB, Bool.and_eq_true, decide_eq_true_eq] at h1
      refine ⟨h1.1, ?_, ?_, kin_of h2⟩
      · refine every_imp v 1 1 (fun x i j hij hb => ?_) h1.2
        simp only [bigN, Bool.and_eq_true, Bool.not_eq_true', decide_eq_false_iff_not] at hb
        simp only [decide_eq_true_eq]
        omega
      · refine every_imp v 1 1 (fun x i j hij hb => ?_) h1.2
        simp only [bigN, Bool.and_eq_true, Bool.not_eq_true', decide_eq_false_iff_not] at hb
        simp only [decide_eq_true_eq]
        omega
    · omega
  · omega
end Go.Proofs.Ythgackidonocpaa
namespace Go.Proofs.Ythgackidonocpaa
open Go.RowKit
inductive Lt where
  | mk (k fm tt n : Int) (t : ByteArray) (v : V)
def Lt.val : Lt → V
  | .mk _ _ _ _ _ v => v
def Lt.ts : Lt → List T
  | .mk k fm tt n t v => [.lit (.int .i64 k), .lit (.int .i64 fm), .lit (.int .i64 tt), .lit (.int .i64 n), .lit (.string t)] ++ v.ts
def Lt.t (x : Lt) : T := .agg x.ts
theorem Lt.ts_len (x : Lt) : x.ts.length = 9 := by obtain ⟨k, fm, tt, n, t, v⟩ := x; simp [Lt.ts, V.ts_len]
def V.isZ : V → Bool
  | .mk k n t l => decide (k = 0) && decide (n = 0) && decide (t = ⟨#[]⟩) && decide ((l.length : Int) = 0)
def Lt.bad1 (k fm tt n : Int) (t : ByteArray) : Bool := decide (fm < 0) || decide (tt < 0) || decide (k < 1) || decide ((5 : Int) < k) || ((!decide (t = ⟨#[]⟩)) && !(decide (k = 2) || decide (k = 5))) || ((!decide (n = 0)) && !decide (k = 2)) || decide (n < 0) || decide ((2 : Int) < n)
def Lt.check : Lt → Int
  | .mk k fm tt n t v => if decide ((4000 : Int) < (t.size : Int)) = true then 2 else if Lt.bad1 k fm tt n t = true then 3 else if decide (k = 1) = true then v.check else if (!v.isZ) = true then 3 else 0
def Lt.fault : Lt → Int
  | .mk k fm tt n t v => if decide ((4000 : Int) < (t.size : Int)) = true then 2 else if (decide (fm < 0) || decide (tt < 0) || decide (k < 1) || decide ((5 : Int) < k)) = true then 3 else if ((!decide (k = 2) && !decide (n = 0)) || decide (n < 0) || decide ((2 : Int) < n)) = true then 3 else if (!decide (k = 2) && !decide (k = 5) && !decide (t = ⟨#[]⟩)) = true then 3 else if decide (k = 1) = true then v.check else if (!v.isZ) = true then 3 else 0
theorem bool_fault (qA q1 q2 q3 q4 q5 q6 q7 : Bool) (X : Int) : (if qA = true then 2 else if q1 = true then 3 else if ((!q2 && !q4) || q5 || q6) = true then 3 else if (!q2 && !q3 && !q7) = true then 3 else X) = (if qA = true then 2 else if (q1 || ((!q7) && !(q2 || q3)) || ((!q4) && !q2) || q5 || q6) = true then 3 else X) := by
  cases qA <;> cases q1 <;> cases q2 <;> cases q3 <;> cases q4 <;> cases q5 <;> cases q6 <;> cases q7 <;> rfl
theorem Lt.fault_eq (x : Lt) : x.fault = x.check := by
  obtain ⟨k, fm, tt, n, t, v⟩ := x
  unfold Lt.fault Lt.check Lt.bad1
  exact bool_fault _ _ _ _ _ _ _ _ _
def Lt.bytes : Lt → List UInt8
  | .mk k fm tt n t v => kb k :: (uv fm.toNat ++ (uv tt.toNat ++ (uv n.toNat ++ (uv t.size ++ (t.data.toList ++ (if k = 1 then v.bytes else []))))))
/-- of a letter that is right -/
structure Lt.Right (k fm tt n : Int) (t : ByteArray) (v : V) : Prop where
  size : t.size ≤ 4000
  fm0 : 0 ≤ fm
  tt0 : 0 ≤ tt
  k1 : 1 ≤ k ∧ k ≤ 5
  n0 : 0 ≤ n ∧ n ≤ 2
  val : k = 1 → v.check = 0
  zero : k ≠ 1 → v = V.zero
theorem isZ_zero {v : V} (h : v.isZ = true) : v = V.zero := by
  obtain ⟨k, n, t, l⟩ := v
  simp only [V.isZ, Bool.and_eq_true, decide_eq_true_eq] at h
  obtain ⟨⟨⟨rfl, rfl⟩, rfl⟩, h4⟩ := h
  have : l = [] := List.eq_nil_of_length_eq_zero (by omega)
  subst this
  rfl
theorem Lt.right {k fm tt n : Int} {t : ByteArray} {v : V} (h : (Lt.mk k fm tt n t v).check = 0) : Lt.Right k fm tt n t v := by
  simp only [Lt.check] at h
  split at h
  · omega
  · rename_i h1
    split at h
    · omega
    · rename_i h2
      simp only [decide_eq_true_eq] at h1
      simp only [Lt.bad1, Bool.or_eq_true, not_or, decide_eq_true_eq] at h2
      obtain ⟨⟨⟨⟨⟨⟨⟨a1, a2⟩, a3⟩, a4⟩, -⟩, -⟩, a5⟩, a6⟩ := h2
      refine ⟨by omega, by omega, by omega, by omega, by omega, fun hk => ?_, fun hk => ?_⟩
      · rw [if_pos (by simpa using hk)] at h; exact h
      · rw [if_neg (by simpa using hk)] at h
        split at h
        · omega
        · rename_i h3
          exact isZ_zero (by simpa using h3)
def rLet (s : RS) : Lt × RS :=
  let p1 := rByte s
  let p2 := rNat p1.2
  let p3 := rNat p2.2
  let p4 := rNat p3.2
  let p5 := rText p4.2
  if p1.1 = 1 then (.mk p1.1 p2.1 p3.1 p4.1 (bs p5.1) (rVal 40 p5.2).1, (rVal 40 p5.2).2) else (.mk p1.1 p2.1 p3.1 p4.1 (bs p5.1) V.zero, p5.2)
/-- what is said of a letter that was read -/
def Lt.fine : Lt → Prop
  | .mk k fm tt n _ v => (0 ≤ k ∧ k < 256) ∧ inI fm ∧ inI tt ∧ inI n ∧ (k = 1 → v.ok ∧ v.kin) ∧ (k ≠ 1 → v = V.zero)
theorem rLet_ok : Reads rLet Lt.bytes Lt.fine := by
  intro s x s' h hb
  unfold rLet at h
  dsimp only at h
  generalize e1 : rByte s = p1 at h
  obtain ⟨x1, s1⟩ := p1
  dsimp only at h
  generalize e2 : rNat s1 = p2 at h
  obtain ⟨x2, s2⟩ := p2
  dsimp only at h
  generalize e3 : rNat s2 = p3 at h
  obtain ⟨x3, s3⟩ := p3
  dsimp only at h
  generalize e4 : rNat s3 = p4 at h
  obtain ⟨x4, s4⟩ := p4
  dsimp only at h
  generalize e5 : rText s4 = p5 at h
  obtain ⟨x5, s5⟩ := p5
  dsimp only at h
  split at h
  · rename_i hk
    have hv := rVal_ok' 40 s5
    generalize rVal 40 s5 = p6 at *
    obtain ⟨x6, s6⟩ := p6
    simp only [Prod.mk.injEq] at h
    obtain ⟨rfl, rfl⟩ := h
    dsimp only at hv
    obtain ⟨g1, g2, g3⟩ := hv hb
    obtain ⟨g5, g5'⟩ := rText_ok e5 (by rw [g1])
    obtain ⟨g6, g6'⟩ := rNat_ok e4 (by rw [g5])
    obtain ⟨g7, g7'⟩ := rNat_ok e3 (by rw [g6])
    obtain ⟨g8, g8'⟩ := rNat_ok e2 (by rw [g7])
    obtain ⟨a, g9, g9'⟩ := rByte_ok e1 (by rw [g8])
    have ha := a.toNat_lt
    refine ⟨?_, ?_⟩
    · rw [g9', g8, g7, g6, g5, g1]
      simp only [Lt.bytes, g9, kb_nat, Int.toNat_natCast, bs_size']
      rw [if_pos (by omega)]
      simp [bs]
    · simp only [Lt.fine, inI]
      exact ⟨⟨by omega, by omega⟩, by omega, by omega, by omega, fun _ => ⟨g2, g3⟩, fun h => absurd (by omega) h⟩
  · rename_i hk
    simp only [Prod.mk.injEq] at h
    obtain ⟨rfl, rfl⟩ := h
    obtain ⟨g5, g5'⟩ := rText_ok e5 hb
    obtain ⟨g6, g6'⟩ := rNat_ok e4 (by rw [g5])
    obtain ⟨g7, g7'⟩ := rNat_ok e3 (by rw [g6])
    obtain ⟨g8, g8'⟩ := rNat_ok e2 (by rw [g7])
    obtain ⟨a, g9, g9'⟩ := rByte_ok e1 (by rw [g8])
    have ha := a.toNat_lt
    refine ⟨?_, ?_⟩
    · rw [g9', g8, g7, g6, g5]
      simp only [Lt.bytes, g9, kb_nat, Int.toNat_natCast, bs_size']
      rw [if_neg (by omega)]
      simp [bs]
    · simp only [Lt.fine, inI]
      exact ⟨⟨by omega, by omega⟩, by omega, by omega, by omega, fun h => absurd (by omega) hk, fun _ => trivial⟩
theorem kb_toNat {k : Int} (h : 0 ≤ k ∧ k < 256) : (((kb k).toNat : Nat) : Int) = k := toNat_kb h
theorem nat_int {n : Int} (h : 0 ≤ n) : ((n.toNat : Nat) : Int) = n := by omega
theorem rLet_to {k fm tt n : Int} {t : ByteArray} {v : V} (h : Lt.Right k fm tt n t v) (hf : inI fm) (ht : inI tt) (hok : v.ok) (hlen : v.bytes.length ≤ 9223372036854775807) (r : List UInt8) (d : Nat) (hd : d = 0) : rLet ⟨(Lt.mk k fm tt n t v).bytes ++ r, false, d⟩ = (.mk k fm tt n t v, ⟨r, false, d⟩) := by
  subst hd
  unfold inI at hf ht
  have hk := kb_toNat (k := k) ⟨by have := h.k1; omega, by have := h.k1; omega⟩
  have hn := h.n0
  have hs := h.size
  have hb : rByte ⟨(Lt.mk k fm tt n t v).bytes ++ r, false, 0⟩ = ((kb k).toNat, ⟨uv fm.toNat ++ (uv tt.toNat ++ (uv n.toNat ++ (uv t.size ++ (t.data.toList ++ ((if k = 1 then v.bytes else []) ++ r))))), false, 0⟩) := by
    simp only [Lt.bytes, rByte, List.cons_append, List.append_assoc]
  have ht5 : rText ⟨uv t.size ++ (t.data.toList ++ ((if k = 1 then v.bytes else []) ++ r)), false, 0⟩ = (t.data.toList, ⟨(if k = 1 then v.bytes else []) ++ r, false, 0⟩) := by
    have := rText_to t.data.toList ((if k = 1 then v.bytes else []) ++ r) 0 (by rw [sz_len]; omega)
    rwa [sz_len] at this
  unfold rLet
  simp only [hb]
  rw [rNat_to fm.toNat _ 0 (by omega)]
  dsimp only
  rw [rNat_to tt.toNat _ 0 (by omega)]
  dsimp only
  rw [rNat_to n.toNat _ 0 (by omega)]
  dsimp only
  simp only [ht5, hk, nat_int h.fm0, nat_int h.tt0, nat_int hn.1, bs_self]
  by_cases h1 : k = 1
  · have h1' : (kb k).toNat = 1 := by omega
    rw [if_pos h1', if_pos h1]
    obtain ⟨c1, c2, c3, c4⟩ := check_ok (h.val h1)
    rw [rVal_to v 40 0 r hok c4 hlen c2 (by omega)]
  · have h1' : ¬ (kb k).toNat = 1 := by omega
    rw [if_neg h1', if_neg h1, h.zero h1]
    rfl
def tLet (s : TS) : Lt × TS :=
  let p1 := tOne s
  let p2 := tNat p1.2
  let p3 := tNat p2.2
  let p4 := tNat p3.2
  let p5 := tText p4.2
  if p1.1 = 1 ∧ p5.2.ok = true then (.mk p1.1 p2.1 p3.1 p4.1 (bs p5.1) (tWhole p5.2).1, (tWhole p5.2).2) else (.mk p1.1 p2.1 p3.1 p4.1 (bs p5.1) V.zero, p5.2)
theorem tWhole_to (v : V) (r : List UInt8) (hok : v.ok) (h : v.check = 0) : tWhole ⟨v.bytes ++ r, true⟩ = (v, ⟨r, true⟩) := by
  obtain ⟨c1, c2, c3, c4⟩ := check_ok h
  have ht := tVal_to v 40 0 1 r 400 hok c4 c3 c2 rfl (by omega) (by omega)
  unfold tWhole
  rw [ht]
theorem tLet_to {k fm tt n : Int} {t : ByteArray} {v : V} (h : Lt.Right k fm tt n t v) (hf : inI fm) (ht : inI tt) (hok : v.ok) (r : List UInt8) : tLet ⟨(Lt.mk k fm tt n t v).bytes ++ r, true⟩ = (.mk k fm tt n t v, ⟨r, true⟩) := by
  unfold inI at hf ht
  have hk := kb_toNat (k := k) ⟨by have := h.k1; omega, by have := h.k1; omega⟩
  have hn := h.n0
  have hs := h.size
  have hb : tOne ⟨(Lt.mk k fm tt n t v).bytes ++ r, true⟩ = ((kb k).toNat, ⟨uv fm.toNat ++ (uv tt.toNat ++ (uv n.toNat ++ (uv t.size ++ (t.data.toList ++ ((if k = 1 then v.bytes else []) ++ r))))), true⟩) := by
    simp only [Lt.bytes, tOne, List.cons_append, List.append_assoc]
  have ht5 : tText ⟨uv t.size ++ (t.data.toList ++ ((if k = 1 then v.bytes else []) ++ r)), true⟩ = (t.data.toList, ⟨(if k = 1 then v.bytes else []) ++ r, true⟩) := by
    have := tText_to t.data.toList ((if k = 1 then v.bytes else []) ++ r) (by rw [sz_len]; omega)
    rwa [sz_len] at this
  unfold tLet
  simp only [hb]
  rw [tNat_to fm.toNat _ (by omega)]
  dsimp only
  rw [tNat_to tt.toNat _ (by omega)]
  dsimp only
  rw [tNat_to n.toNat _ (by omega)]
  dsimp only
  simp only [ht5, hk, nat_int h.fm0, nat_int h.tt0, nat_int hn.1, bs_self]
  by_cases h1 : k = 1
  · have h1' : (kb k).toNat = 1 := by omega
    rw [if_pos ⟨h1', trivial⟩, if_pos h1, tWhole_to v r hok (h.val h1)]
  · have h1' : ¬ ((kb k).toNat = 1 ∧ True) := fun h => h1 (by omega)
    rw [if_neg h1', if_neg h1, h.zero h1]
    rfl
def Lt.out (x : Lt) : List UInt8 := if x.check = 0 then x.bytes else []
def Lt.zero : Lt := .mk 0 0 0 0 ⟨#[]⟩ V.zero
/-- what was taken is small -/
structure Lt.Small (x : Lt) : Prop where
  ok : x.val.ok
  size : x.val.size ≤ 1048576
  bytes : x.val.bytes.length ≤ 1000000000
  nums : match x with | .mk _ fm tt n t _ => inI fm ∧ inI tt ∧ inI n ∧ t.size ≤ 1000000000
theorem zero_small : V.zero.ok ∧ V.zero.size ≤ 1048576 ∧ V.zero.bytes.length ≤ 1000000000 := by
  obtain ⟨h1, h2, h3⟩ := zero_fair
  have h4 := V.bytes_len V.zero h1 (by omega) (by omega)
  exact ⟨h1, by omega, by omega⟩
theorem zero_ok : V.zero.ok ∧ V.zero.bytes.length ≤ 9223372036854775807 := ⟨zero_small.1, by have := zero_small.2.2; omega⟩
end Go.Proofs.Ythgackidonocpaa
namespace Go.Proofs.Ythgackidonocpaa
open Go.RowKit
set_option maxRecDepth 100000 in
set_option maxHeartbeats 8000000 in
theorem isZero_af (v : V) : AF Try.prog 89 [v.t] (· = .lit (.bool v.isZ)) := by
  obtain ⟨k, n, t, l⟩ := v
  refine af_enter tok Try.func89 Try.ntmps89 Try.results89 rfl (by kernel_rfl) rfl rfl fun F hX => ?_
  cases d1 : decide (k = 0)
  · repeat (first | refine gG ?_ | refine zN1 (fun hlen => ?_) | refine zN2 (fun hlen => ?_) | refine zBf ?_)
    first | refine zR ?_ | refine zQ ?_
    simp only [V.isZ, d1]; rfl
  cases d2 : decide (n = 0)
  · repeat (first | refine gG ?_ | refine zN1 (fun hlen => ?_) | refine zN2 (fun hlen => ?_) | refine zBf ?_)
    first | refine zR ?_ | refine zQ ?_
    simp only [V.isZ, d1, d2]; rfl
  cases d3 : decide (t = ⟨#[]⟩)
  · repeat (first | refine gG ?_ | refine zN1 (fun hlen => ?_) | refine zN2 (fun hlen => ?_) | refine zBf ?_)
    first | refine zR ?_ | refine zQ ?_
    simp only [V.isZ, d1, d2, d3]; rfl
  repeat (first | refine gG ?_ | refine zN1 (fun hlen => ?_) | refine zN2 (fun hlen => ?_) | refine zBf ?_)
  first | refine zR ?_ | refine zQ ?_
  simp only [V.isZ, d1, d2, d3]; rfl
set_option maxRecDepth 100000 in
set_option maxHeartbeats 8000000 in
theorem none_af (v : V) : AF Try.prog 90 [v.t] (· = .lit (.bool v.isZ)) := by
  obtain ⟨k, n, t, l⟩ := v
  refine af_enter tok Try.func90 Try.ntmps90 Try.results90 rfl (by kernel_rfl) rfl rfl fun F hX => ?_
  cases d1 : decide (k = 0)
  · repeat (first | refine gG ?_ | refine zN1 (fun hlen => ?_) | refine zN2 (fun hlen => ?_) | refine zBf ?_)
    first | refine zR ?_ | refine zQ ?_
    simp only [V.isZ, d1]; rfl
  cases d2 : decide (n = 0)
  · repeat (first | refine gG ?_ | refine zN1 (fun hlen => ?_) | refine zN2 (fun hlen => ?_) | refine zBf ?_)
    first | refine zR ?_ | refine zQ ?_
    simp only [V.isZ, d1, d2]; rfl
  cases d3 : decide (t = ⟨#[]⟩)
  · repeat (first | refine gG ?_ | refine zN1 (fun hlen => ?_) | refine zN2 (fun hlen => ?_) | refine zBf ?_)
    first | refine zR ?_ | refine zQ ?_
    simp only [V.isZ, d1, d2, d3]; rfl
  repeat (first | refine gG ?_ | refine zN1 (fun hlen => ?_) | refine zN2 (fun hlen => ?_) | refine zBf ?_)
  first | refine zR ?_ | refine zQ ?_
  simp only [V.isZ, d1, d2, d3]; rfl
set_option maxRecDepth 100000 in
set_option maxHeartbeats 8000000 in
theorem checkLetter_af (x : Lt) : AF Try.prog 28 [x.t] (· = .lit (.int .i64 x.check)) := by
  obtain ⟨k, fm, tt, n, t, v⟩ := x
  have h1 := check_af v
  have h2 := isZero_af v
  simp only [Lt.check]
  generalize v.check = cv at *
  generalize v.isZ = zv at *
  obtain ⟨kv, nv, tv, lv⟩ := v
  refine af_enter tok Try.func28 Try.ntmps28 Try.results28 rfl (by kernel_rfl) rfl rfl fun F hX => ?_
  refine ac_seq ?_
  refine ac_region ?_
  repeat (first | refine gO ?_ | refine zN1 (fun hlen => ?_) | refine zN2 (fun hlen => ?_) | refine zBf ?_)
  refine ac_seq ?_
  refine x_join [4, 5, 6, 7, 8, 9, 10, 11, 3] (fun y : {y : Bool // y = (decide (k = 2) || decide (k = 5))} => [(3, .c (.lit (.bool y.1)))]) (fun _ => []) ?_ ?_
  rotate_left
  · cases qK2 : decide (k = 2)
    · refine ac_region ?_
      repeat (first | refine gO ?_ | refine zN1 (fun hlen => ?_) | refine zN2 (fun hlen => ?_) | refine zBx (fun _ => ?_))
      exact ⟨⟨decide (k = 5), rfl⟩, x_wkd 0 ⟨rfl, trivial⟩ rfl (by repeat (first | exact ag_refl | refine ag_upd rfl ?_ | refine ag_at rfl rfl ?_))⟩
    · refine ac_region ?_
      repeat (first | refine gO ?_ | refine zN1 (fun hlen => ?_) | refine zN2 (fun hlen => ?_) | refine zBx (fun _ => ?_))
      exact ⟨⟨true, rfl⟩, x_wkd 0 ⟨rfl, trivial⟩ rfl (by repeat (first | exact ag_refl | refine ag_upd rfl ?_ | refine ag_at rfl rfl ?_))⟩
  rintro ⟨tx, htx⟩
  dsimp only
  refine ac_seq ?_
  refine ac_block ?_
  refine ac_seq ?_
  refine ac_region ?_
  repeat (first | refine gO ?_ | refine zN1 (fun hlen => ?_) | refine zN2 (fun hlen => ?_) | refine zBx (fun _ => ?_))
  refine x_cond rfl (fun qA => ?_) (fun qA => ?_)
  · repeat (first | refine gG ?_ | refine zN1 (fun hlen => ?_) | refine zN2 (fun hlen => ?_) | refine zBx (fun _ => ?_))
    first | refine zR ?_ | refine zQ ?_
    rw [if_pos qA]; rfl
  rw [if_neg (by rw [qA]; decide)]
  refine ac_seq ?_
  refine x_join [18, 19, 20, 21, 22, 23, 24, 25, 26, 27, 28, 29, 30, 31, 32, 33, 34, 35, 36, 37, 38, 39, 40, 41, 42, 43, 44, 45, 46, 47, 48, 49, 50, 51, 52, 53, 54, 55, 56, 57, 58, 59, 60, 61, 62, 63, 64, 17] (fun y : {y : Bool // y = Lt.bad1 k fm tt n t} => [(17, .c (.lit (.bool y.1)))]) (fun _ => []) ?_ ?_
  rotate_left
  · skip
    cases qF : decide (fm < 0)
    · skip
      cases qT : decide (tt < 0)
      · skip
        cases qK1 : decide (k < 1)
        · skip
          cases qK5x : decide ((5 : Int) < k)
          · skip
            cases qE : decide (t = ⟨#[]⟩)
            · skip
              cases qTX : tx
              · skip
                refine ac_region ?_
                repeat (first | refine gO ?_ | refine zN1 (fun hlen => ?_) | refine zN2 (fun hlen => ?_) | refine zBx (fun _ => ?_))
                exact ⟨⟨true, by rw [Lt.bad1, ← htx, qTX]; simp only [qF, qT, qK1, qK5x, qE]; first | rfl | simp⟩, x_wkd 0 ⟨rfl, trivial⟩ rfl (by repeat (first | exact ag_refl | refine ag_upd rfl ?_ | refine ag_at rfl rfl ?_))⟩
              · skip
                cases qN0 : decide (n = 0)
                · skip
                  cases qK2 : decide (k = 2)
                  · skip
                    refine ac_region ?_
                    repeat (first | refine gO ?_ | refine zN1 (fun hlen => ?_) | refine zN2 (fun hlen => ?_) | refine zBx (fun _ => ?_))
                    exact ⟨⟨true, by rw [Lt.bad1, ← htx, qTX]; simp only [qF, qT, qK1, qK5x, qE, qN0, qK2]; first | rfl | simp⟩, x_wkd 0 ⟨rfl, trivial⟩ rfl (by repeat (first | exact ag_refl | refine ag_upd rfl ?_ | refine ag_at rfl rfl ?_))⟩
                  · skip
                    cases qNn : decide (n < 0)
                    · skip
                      refine ac_region ?_
                      repeat (first | refine gO ?_ | refine zN1 (fun hlen => ?_) | refine zN2 (fun hlen => ?_) | refine zBx (fun _ => ?_))
                      exact ⟨⟨decide ((2 : Int) < n), by rw [Lt.bad1, ← htx, qTX]; simp only [qF, qT, qK1, qK5x, qE, qN0, qK2, qNn]; first | rfl | simp⟩, x_wkd 0 ⟨rfl, trivial⟩ rfl (by repeat (first | exact ag_refl | refine ag_upd rfl ?_ | refine ag_at rfl rfl ?_))⟩
                    · skip
                      refine ac_region ?_
                      repeat (first | refine gO ?_ | refine zN1 (fun hlen => ?_) | refine zN2 (fun hlen => ?_) | refine zBx (fun _ => ?_))
                      exact ⟨⟨true, by rw [Lt.bad1, ← htx, qTX]; simp only [qF, qT, qK1, qK5x, qE, qN0, qK2, qNn]; first | rfl | simp⟩, x_wkd 0 ⟨rfl, trivial⟩ rfl (by repeat (first | exact ag_refl | refine ag_upd rfl ?_ | refine ag_at rfl rfl ?_))⟩
                · skip
                  cases qNn : decide (n < 0)
                  · skip
                    refine ac_region ?_
                    repeat (first | refine gO ?_ | refine zN1 (fun hlen => ?_) | refine zN2 (fun hlen => ?_) | refine zBx (fun _ => ?_))
                    exact ⟨⟨decide ((2 : Int) < n), by rw [Lt.bad1, ← htx, qTX]; simp only [qF, qT, qK1, qK5x, qE, qN0, qNn]; first | rfl | simp⟩, x_wkd 0 ⟨rfl, trivial⟩ rfl (by repeat (first | exact ag_refl | refine ag_upd rfl ?_ | refine ag_at rfl rfl ?_))⟩
                  · skip
                    refine ac_region ?_
                    repeat (first | refine gO ?_ | refine zN1 (fun hlen => ?_) | refine zN2 (fun hlen => ?_) | refine zBx (fun _ => ?_))
                    exact ⟨⟨true, by rw [Lt.bad1, ← htx, qTX]; simp only [qF, qT, qK1, qK5x, qE, qN0, qNn]; first | rfl | simp⟩, x_wkd 0 ⟨rfl, trivial⟩ rfl (by repeat (first | exact ag_refl | refine ag_upd rfl ?_ | refine ag_at rfl rfl ?_))⟩
            · skip
              cases qN0 : decide (n = 0)
              · skip
                cases qK2 : decide (k = 2)
                · skip
                  refine ac_region ?_
                  repeat (first | refine gO ?_ | refine zN1 (fun hlen => ?_) | refine zN2 (fun hlen => ?_) | refine zBx (fun _ => ?_))
                  exact ⟨⟨true, by rw [Lt.bad1, ← htx]; simp only [qF, qT, qK1, qK5x, qE, qN0, qK2]; first | rfl | simp⟩, x_wkd 0 ⟨rfl, trivial⟩ rfl (by repeat (first | exact ag_refl | refine ag_upd rfl ?_ | refine ag_at rfl rfl ?_))⟩
                · skip
                  cases qNn : decide (n < 0)
                  · skip
                    refine ac_region ?_
                    repeat (first | refine gO ?_ | refine zN1 (fun hlen => ?_) | refine zN2 (fun hlen => ?_) | refine zBx (fun _ => ?_))
                    exact ⟨⟨decide ((2 : Int) < n), by rw [Lt.bad1, ← htx]; simp only [qF, qT, qK1, qK5x, qE, qN0, qK2, qNn]; first | rfl | simp⟩, x_wkd 0 ⟨rfl, trivial⟩ rfl (by repeat (first | exact ag_refl | refine ag_upd rfl ?_ | refine ag_at rfl rfl ?_))⟩
                  · skip
                    refine ac_region ?_
                    repeat (first | refine gO ?_ | refine zN1 (fun hlen => ?_) | refine zN2 (fun hlen => ?_) | refine zBx (fun _ => ?_))
                    exact ⟨⟨true, by rw [Lt.bad1, ← htx]; simp only [qF, qT, qK1, qK5x, qE, qN0, qK2, qNn]; first | rfl | simp⟩, x_wkd 0 ⟨rfl, trivial⟩ rfl (by repeat (first | exact ag_refl | refine ag_upd rfl ?_ | refine ag_at rfl rfl ?_))⟩
              · skip
                cases qNn : decide (n < 0)
                · skip
                  refine ac_region ?_
                  repeat (first | refine gO ?_ | refine zN1 (fun hlen => ?_) | refine zN2 (fun hlen => ?_) | refine zBx (fun _ => ?_))
                  exact ⟨⟨decide ((2 : Int) < n), by rw [Lt.bad1, ← htx]; simp only [qF, qT, qK1, qK5x, qE, qN0, qNn]; first | rfl | simp⟩, x_wkd 0 ⟨rfl, trivial⟩ rfl (by repeat (first | exact ag_refl | refine ag_upd rfl ?_ | refine ag_at rfl rfl ?_))⟩
                · skip
                  refine ac_region ?_
                  repeat (first | refine gO ?_ | refine zN1 (fun hlen => ?_) | refine zN2 (fun hlen => ?_) | refine zBx (fun _ => ?_))
                  exact ⟨⟨true, by rw [Lt.bad1, ← htx]; simp only [qF, qT, qK1, qK5x, qE, qN0, qNn]; first | rfl | simp⟩, x_wkd 0 ⟨rfl, trivial⟩ rfl (by repeat (first | exact ag_refl | refine ag_upd rfl ?_ | refine ag_at rfl rfl ?_))⟩
          · skip
            refine ac_region ?_
            repeat (first | refine gO ?_ | refine zN1 (fun hlen => ?_) | refine zN2 (fun hlen => ?_) | refine zBx (fun _ => ?_))
            exact ⟨⟨true, by rw [Lt.bad1, ← htx]; simp only [qF, qT, qK1, qK5x]; first | rfl | simp⟩, x_wkd 0 ⟨rfl, trivial⟩ rfl (by repeat (first | exact ag_refl | refine ag_upd rfl ?_ | refine ag_at rfl rfl ?_))⟩
        · skip
          refine ac_region ?_
          repeat (first | refine gO ?_ | refine zN1 (fun hlen => ?_) | refine zN2 (fun hlen => ?_) | refine zBx (fun _ => ?_))
          exact ⟨⟨true, by rw [Lt.bad1, ← htx]; simp only [qF, qT, qK1]; first | rfl | simp⟩, x_wkd 0 ⟨rfl, trivial⟩ rfl (by repeat (first | exact ag_refl | refine ag_upd rfl ?_ | refine ag_at rfl rfl ?_))⟩
      · skip
        refine ac_region ?_
        repeat (first | refine gO ?_ | refine zN1 (fun hlen => ?_) | refine zN2 (fun hlen => ?_) | refine zBx (fun _ => ?_))
        exact ⟨⟨true, by rw [Lt.bad1, ← htx]; simp only [qF, qT]; first | rfl | simp⟩, x_wkd 0 ⟨rfl, trivial⟩ rfl (by repeat (first | exact ag_refl | refine ag_upd rfl ?_ | refine ag_at rfl rfl ?_))⟩
    · skip
      refine ac_region ?_
      repeat (first | refine gO ?_ | refine zN1 (fun hlen => ?_) | refine zN2 (fun hlen => ?_) | refine zBx (fun _ => ?_))
      exact ⟨⟨true, by rw [Lt.bad1, ← htx]; simp only [qF]; first | rfl | simp⟩, x_wkd 0 ⟨rfl, trivial⟩ rfl (by repeat (first | exact ag_refl | refine ag_upd rfl ?_ | refine ag_at rfl rfl ?_))⟩
  rintro ⟨bd, hbd⟩
  dsimp only
  rw [← hbd]
  cases bd
  rotate_left
  · repeat (first | refine gG ?_ | refine zN1 (fun hlen => ?_) | refine zN2 (fun hlen => ?_) | refine zBx (fun _ => ?_))
    first | refine zR ?_ | refine zQ ?_
    rfl
  cases qKM : decide (k = 1)
  · repeat (first | refine gG ?_ | refine zN1 (fun hlen => ?_) | refine zN2 (fun hlen => ?_) | refine zBx (fun _ => ?_))
    refine zCall (h2) ?_
    rintro _ rfl
    cases zv
    · repeat (first | refine gG ?_ | refine zN1 (fun hlen => ?_) | refine zN2 (fun hlen => ?_) | refine zBx (fun _ => ?_))
      first | refine zR ?_ | refine zQ ?_
      rfl
    · repeat (first | refine gG ?_ | refine zN1 (fun hlen => ?_) | refine zN2 (fun hlen => ?_) | refine zBx (fun _ => ?_))
      first | refine zR ?_ | refine zQ ?_
      rfl
  · repeat (first | refine gG ?_ | refine zN1 (fun hlen => ?_) | refine zN2 (fun hlen => ?_) | refine zBx (fun _ => ?_))
    refine zCall (h1) ?_
    rintro _ rfl
    repeat (first | refine gG ?_ | refine zN1 (fun hlen => ?_) | refine zN2 (fun hlen => ?_) | refine zBx (fun _ => ?_))
    first | refine zR ?_ | refine zQ ?_
    rfl
end Go.Proofs.Ythgackidonocpaa
namespace Go.Proofs.Ythgackidonocpaa
open Go.RowKit
structure Inp where
  kind : Int
  val : V
def Inp.ts (x : Inp) : List T := .lit (.int .i64 x.kind) :: x.val.ts
theorem Inp.ts_len (x : Inp) : x.ts.length = 5 := by simp [Inp.ts, V.ts_len]
def Inp.same (x y : Inp) : Bool := decide (x.kind = y.kind) && x.val.same y.val
def Inp.t (x : Inp) : T := .agg x.ts
structure Sav where
  actor : ByteArray
  state : List V
  inputs : List Inp
def inpRow (l : List Inp) : T := .row l.length 5 (l.flatMap Inp.ts)
def Sav.t (s : Sav) : T := .agg [.lit (.string s.actor), V.row s.state, inpRow s.inputs]
def Sav.same (s s' : Sav) : Bool := decide (s.actor = s'.actor) && eqBy V.same s.state s'.state && eqBy Inp.same s.inputs s'.inputs
theorem Sav.same_refl (s : Sav) : s.same s = true := by
  simp [Sav.same, eqBy_refl (fun a (_ : a ∈ s.state) => V.same_refl a), eqBy_refl (p := Inp.same) (l := s.inputs) (fun a _ => by simp [Inp.same, V.same_refl])]
set_option maxRecDepth 100000 in
set_option maxHeartbeats 1000000 in
theorem savedSmall_af (s : Sav) (h1 : ∀ v ∈ s.state, v.size ≤ 1048576) (h2 : ∀ x ∈ s.inputs, x.val.size ≤ 1048576) (hn : s.state.length ≤ 1048576) : AF Try.prog 33 [s.t] Tell := by
  have hvs := valuesSmall_af s.state h1 hn
  obtain ⟨ac, st, l⟩ := s
  dsimp only at *
  refine af_enter tok Try.func33 Try.ntmps33 Try.results33 rfl (by kernel_rfl) rfl rfl fun F hX => ?_
  repeat (first | refine gG ?_ | refine zN1 (fun hlen => ?_) | refine zN2 (fun hlen => ?_) | refine zAl (fun _ => ?_) | refine zBx (fun _ => ?_))
  rename_i b0
  refine x_loop [2, 4, 8, 9, 10, 11, 12, 13, 14, 15, 16] (fun k : Nat => [(8, .c (.lit (.int .i64 k)))]) (fun _ => [.box b0 47 [.c (.lit (.string ac)), .c (V.row st), .c (inpRow l)]]) (fun k => k ≤ l.length) (fun k => l.length - k) 0 (Nat.zero_le _) ⟨rfl, trivial⟩ rfl fun k hk => ?_
  repeat (first | refine gG ?_ | refine zN1 (fun hlen => ?_) | refine zN2 (fun hlen => ?_) | refine zAl (fun _ => ?_) | refine zBx (fun _ => ?_))
  refine x_cond rfl (fun h => ?_) (fun h => ?_)
  · have hk' : k < l.length := by simpa using h
    obtain ⟨a, ha⟩ := nth hk'
    have hs := valueSmall_af a.val (h2 a (List.mem_of_getElem? ha))
    repeat (first | refine gG ?_ | refine zN1 (fun hlen => ?_) | refine zN2 (fun hlen => ?_) | refine zAl (fun _ => ?_) | refine zBx (fun _ => ?_))
    refine zIx (k) (hk') ?_
    repeat (first | refine gG ?_ | refine zN1 (fun hlen => ?_) | refine zN2 (fun hlen => ?_) | refine zAl (fun _ => ?_) | refine zBx (fun _ => ?_))
    refine zEl (flat_at Inp.ts 5 Inp.ts_len ha) (Inp.ts_len a) ?_
    obtain ⟨kd, ⟨ka, na, ta, la⟩⟩ := a
    repeat (first | refine gG ?_ | refine zN1 (fun hlen => ?_) | refine zN2 (fun hlen => ?_) | refine zAl (fun _ => ?_) | refine zBx (fun _ => ?_))
    refine zCall (hs) ?_
    rintro _ ⟨b, rfl⟩
    repeat (first | refine gG ?_ | refine zN1 (fun hlen => ?_) | refine zN2 (fun hlen => ?_) | refine zAl (fun _ => ?_) | refine zBx (fun _ => ?_))
    refine x_cond rfl (fun h => ?_) (fun h => ?_)
    · repeat (first | refine gG ?_ | refine zN1 (fun hlen => ?_) | refine zN2 (fun hlen => ?_) | refine zAl (fun _ => ?_) | refine zBx (fun _ => ?_))
      first | refine zR ?_ | refine zQ ?_
      exact ⟨_, rfl⟩
    · repeat (first | refine gG ?_ | refine zN1 (fun hlen => ?_) | refine zN2 (fun hlen => ?_) | refine zAl (fun _ => ?_) | refine zBx (fun _ => ?_))
      exact ⟨k + 1, hk', by omega, x_wkd 1 ⟨rfl, trivial⟩ rfl (by repeat (first | exact ag_refl | refine ag_upd rfl ?_ | refine ag_at rfl rfl ?_))⟩
  · repeat (first | refine gG ?_ | refine zN1 (fun hlen => ?_) | refine zN2 (fun hlen => ?_) | refine zAl (fun _ => ?_) | refine zBx (fun _ => ?_))
    refine zCall (hvs) ?_
    rintro _ ⟨b, rfl⟩
    repeat (first | refine gG ?_ | refine zN1 (fun hlen => ?_) | refine zN2 (fun hlen => ?_) | refine zAl (fun _ => ?_) | refine zBx (fun _ => ?_))
    first | refine zR ?_ | refine zQ ?_
    exact ⟨_, rfl⟩
set_option maxRecDepth 100000 in
set_option maxHeartbeats 1000000 in
theorem sameInp_af (x y : Inp) : AF Try.prog 95 [x.t, y.t] (· = .lit (.bool (x.same y))) := by
  have hc := sameValue_af x.val y.val
  obtain ⟨k, ⟨ka, na, ta, la⟩⟩ := x
  obtain ⟨k', ⟨kb, nb, tb, lb⟩⟩ := y
  dsimp only at hc
  refine af_enter tok Try.func95 Try.ntmps95 Try.results95 rfl (by kernel_rfl) rfl rfl fun F hX => ?_
  cases d1 : decide (k = k')
  · repeat (first | refine gG ?_ | refine zBx (fun _ => ?_))
    first | refine zR ?_ | refine zQ ?_
    simp [Inp.same, d1, outT]
  · repeat (first | refine gG ?_ | refine zBx (fun _ => ?_))
    refine zCall (hc) ?_
    rintro _ rfl
    repeat (first | refine gG ?_ | refine zBx (fun _ => ?_))
    first | refine zR ?_ | refine zQ ?_
    simp [Inp.same, d1, outT]
set_option maxRecDepth 100000 in
set_option maxHeartbeats 1000000 in
theorem eqInps_af (p : Inp → Inp → Bool) (f : FuncId) (l r : List Inp) (hf : ∀ a ∈ l, ∀ b ∈ r, AF Try.prog f [a.t, b.t] (· = .lit (.bool (p a b)))) :
    AF Try.prog 94 [inpRow l, inpRow r, .fn (.func f) []] (· = .lit (.bool (eqBy p l r))) := by
  refine af_enter tok Try.func94 Try.ntmps94 Try.results94 rfl (by kernel_rfl) rfl rfl fun F hX => ?_
  repeat (first | refine gG ?_ | refine zN1 (fun hlen => ?_) | refine zN2 (fun hlen => ?_) | refine zAl (fun _ => ?_))
  refine x_cond rfl (fun h => ?_) (fun h => ?_)
  · repeat (first | refine gG ?_ | refine zN1 (fun hlen => ?_) | refine zN2 (fun hlen => ?_) | refine zAl (fun _ => ?_))
    first | refine zR ?_ | refine zQ ?_
    have : l.length ≠ r.length := by have := h; simp at this; omega
    rw [eqBy_len this]
    rfl
  · have hlr : l.length = r.length := by have := h; simp at this; omega
    repeat (first | refine gG ?_ | refine zN1 (fun hlen => ?_) | refine zN2 (fun hlen => ?_) | refine zAl (fun _ => ?_))
    refine x_loop [6, 7, 8, 9, 17, 18, 19, 20, 21, 22, 23, 24, 25, 26, 27, 28, 29, 30, 31] (fun k : Nat => [(17, .c (.lit (.int .i64 k)))]) (fun _ => []) (fun k => k ≤ l.length ∧ eqBy p l r = eqBy p (l.drop k) (r.drop k)) (fun k => l.length - k) 0 ⟨Nat.zero_le _, rfl⟩ ⟨rfl, trivial⟩ rfl fun k hk => ?_
    repeat (first | refine gG ?_ | refine zN1 (fun hlen => ?_) | refine zN2 (fun hlen => ?_) | refine zAl (fun _ => ?_))
    refine x_cond rfl (fun h => ?_) (fun h => ?_)
    · have hk' : k < l.length := by simpa using h
      obtain ⟨a, ha⟩ := nth hk'
      obtain ⟨b, hb⟩ := nth (hlr ▸ hk' : k < r.length)
      have hp := hf a (List.mem_of_getElem? ha) b (List.mem_of_getElem? hb)
      have hstep : eqBy p (l.drop k) (r.drop k) = (p a b && eqBy p (l.drop (k + 1)) (r.drop (k + 1))) := eqBy_step ha hb
      repeat (first | refine gG ?_ | refine zN1 (fun hlen => ?_) | refine zN2 (fun hlen => ?_) | refine zAl (fun _ => ?_))
      refine zIx (k) (hk') ?_
      repeat (first | refine gG ?_ | refine zN1 (fun hlen => ?_) | refine zN2 (fun hlen => ?_) | refine zAl (fun _ => ?_))
      refine zEl (flat_at Inp.ts 5 Inp.ts_len ha) (Inp.ts_len a) ?_
      generalize hpq : p a b = pq at *
      obtain ⟨kd, ⟨ka, na, ta, la⟩⟩ := a
      obtain ⟨kd', ⟨kb, nb, tb, lb⟩⟩ := b
      repeat (first | refine gG ?_ | refine zN1 (fun hlen => ?_) | refine zN2 (fun hlen => ?_) | refine zAl (fun _ => ?_))
      refine zIx (k) (hlr ▸ hk') ?_
      repeat (first | refine gG ?_ | refine zN1 (fun hlen => ?_) | refine zN2 (fun hlen => ?_) | refine zAl (fun _ => ?_))
      refine zEl (flat_at Inp.ts 5 Inp.ts_len hb) (Inp.ts_len _) ?_
      repeat (first | refine gG ?_ | refine zN1 (fun hlen => ?_) | refine zN2 (fun hlen => ?_) | refine zAl (fun _ => ?_))
      refine zCallc (hp) ?_
      rintro _ rfl
      repeat (first | refine gG ?_ | refine zN1 (fun hlen => ?_) | refine zN2 (fun hlen => ?_) | refine zAl (fun _ => ?_))
      refine x_cond rfl (fun h => ?_) (fun h => ?_)
      · repeat (first | refine gG ?_ | refine zN1 (fun hlen => ?_) | refine zN2 (fun hlen => ?_) | refine zAl (fun _ => ?_))
        first | refine zR ?_ | refine zQ ?_
        have hq : pq = false := by simpa using h
        rw [hk.2, hstep, hq]
        rfl
      · repeat (first | refine gG ?_ | refine zN1 (fun hlen => ?_) | refine zN2 (fun hlen => ?_) | refine zAl (fun _ => ?_))
        have hq : pq = true := by simpa using h
        exact ⟨k + 1, ⟨hk', by rw [hk.2, hstep, hq, Bool.true_and]⟩, by omega, x_wkd 0 ⟨rfl, trivial⟩ rfl (by repeat (first | exact ag_refl | refine ag_upd rfl ?_ | refine ag_at rfl rfl ?_))⟩
    · have hk' : k = l.length := by have : ¬ k < l.length := by simpa using h
                                    omega
      repeat (first | refine gG ?_ | refine zN1 (fun hlen => ?_) | refine zN2 (fun hlen => ?_) | refine zAl (fun _ => ?_))
      first | refine zR ?_ | refine zQ ?_
      rw [hk.2, hk', List.drop_length, hlr, List.drop_length]
      rfl
set_option maxRecDepth 100000 in
set_option maxHeartbeats 1000000 in
theorem sameSaved_af (s s' : Sav) : AF Try.prog 32 [s.t, s'.t] (· = .lit (.bool (s.same s'))) := by
  have h1 := eqVals_af V.same 22 s.state s'.state (fun a _ b _ => sameValue_af a b)
  have h2 := eqInps_af Inp.same 95 s.inputs s'.inputs (fun a _ b _ => sameInp_af a b)
  obtain ⟨ac, st, l⟩ := s
  obtain ⟨ac', st', l'⟩ := s'
  dsimp only at h1 h2
  refine af_enter tok Try.func32 Try.ntmps32 Try.results32 rfl (by kernel_rfl) rfl rfl fun F hX => ?_
  cases d1 : decide (ac = ac')
  · repeat (first | refine gG ?_ | refine zBx (fun _ => ?_))
    first | refine zR ?_ | refine zQ ?_
    simp [Sav.same, d1, outT]
  · repeat (first | refine gG ?_ | refine zBx (fun _ => ?_))
    refine zCall (h1) ?_
    rintro _ rfl
    cases d2 : eqBy V.same st st'
    · repeat (first | refine gG ?_ | refine zBx (fun _ => ?_))
      first | refine zR ?_ | refine zQ ?_
      simp [Sav.same, d2, outT]
    · repeat (first | refine gG ?_ | refine zBx (fun _ => ?_))
      refine zCall (h2) ?_
      rintro _ rfl
      repeat (first | refine gG ?_ | refine zBx (fun _ => ?_))
      first | refine zR ?_ | refine zQ ?_
      simp [Sav.same, d1, d2, outT]
end Go.Proofs.Ythgackidonocpaa
namespace Go.Proofs.Ythgackidonocpaa
open Go.RowKit
/-- the first that is not nought -/
def errs : List Int → Int
  | [] => 0
  | e :: r => if e = 0 then errs r else e
theorem errs_all {α : Type} (f : α → Int) : ∀ {l : List α}, (∀ x ∈ l, f x = 0) → errs (l.map f) = 0
  | [], _ => rfl
  | a :: l, h => by rw [List.map_cons, errs, if_pos (h a (by simp)), errs_all f fun x hx => h x (List.mem_cons_of_mem _ hx)]
theorem errs_at {α : Type} (f : α → Int) : ∀ {l : List α} {k : Nat} {a : α}, (∀ x ∈ l.take k, f x = 0) → l[k]? = some a → f a ≠ 0 → errs (l.map f) = f a
  | [], _, _, _, h, _ => by simp at h
  | b :: l, 0, a, _, h, h0 => by
    obtain rfl : b = a := by simpa using h
    rw [List.map_cons, errs, if_neg h0]
  | b :: l, k + 1, a, h, ha, h0 => by
    rw [List.map_cons, errs, if_pos (h b (by simp))]
    exact errs_at f (k := k) (fun x hx => h x (by simp [hx])) (by simpa using ha) h0
theorem errs_zero {α : Type} (f : α → Int) : ∀ {l : List α}, errs (l.map f) = 0 → ∀ x ∈ l, f x = 0
  | [], _, x, hx => by simp at hx
  | a :: l, h, x, hx => by
    rw [List.map_cons, errs] at h
    split at h
    · rename_i h0
      rcases List.mem_cons.1 hx with rfl | hx
      · exact h0
      · exact errs_zero f h x hx
    · rename_i h0; exact absurd h h0
theorem take_snoc {α : Type} {p : α → Prop} {l : List α} {k : Nat} {a : α} (ha : l[k]? = some a) (h : ∀ x ∈ l.take k, p x) (h0 : p a) : ∀ x ∈ l.take (k + 1), p x := by
  obtain ⟨h1, rfl⟩ := List.getElem?_eq_some_iff.1 ha
  rw [List.take_succ_eq_append_getElem h1]
  intro x hx
  rcases List.mem_append.1 hx with hx | hx
  · exact h x hx
  · rw [List.mem_singleton.1 hx]; exact h0
def Inp.bytes (x : Inp) : List UInt8 := kb x.kind :: (if x.kind = 3 then [] else x.val.bytes)
def Inp.bad (x : Inp) : Bool := decide (x.kind < 1) || decide ((3 : Int) < x.kind) || (decide (x.kind = 3) && !x.val.isZ)
def Inp.check (x : Inp) : Int := if x.bad = true then 3 else if decide (x.kind = 3) = true then 0 else x.val.check
def Sav.bytes (s : Sav) : List UInt8 := uv s.actor.size ++ (s.actor.data.toList ++ (uv s.state.length ++ (s.state.flatMap V.bytes ++ (uv s.inputs.length ++ s.inputs.flatMap Inp.bytes))))
def Sav.check (s : Sav) : Int :=
  if (decide ((s.actor.size : Int) < 1) || decide ((16 : Int) < (s.actor.size : Int))) = true then 3
  else if (decide ((6 : Int) < (s.state.length : Int)) || decide ((2000 : Int) < (s.inputs.length : Int))) = true then 2
  else if errs (s.state.map V.check) = 0 then errs (s.inputs.map Inp.check) else errs (s.state.map V.check)
/-- of what is right -/
structure Inp.Right (x : Inp) : Prop where
  kind : 1 ≤ x.kind ∧ x.kind ≤ 3
  val : x.kind ≠ 3 → x.val.check = 0
  zero : x.kind = 3 → x.val = V.zero
theorem Inp.right {x : Inp} (h : x.check = 0) : x.Right := by
  unfold Inp.check at h
  split at h
  · omega
  · rename_i h1
    simp only [Inp.bad, Bool.or_eq_true, Bool.and_eq_true, decide_eq_true_eq, not_or, not_and, Bool.not_eq_true', Bool.not_eq_false] at h1
    obtain ⟨⟨a1, a2⟩, a3⟩ := h1
    refine ⟨by omega, fun hk => ?_, fun hk => isZ_zero (a3 hk)⟩
    rw [if_neg (by simpa using hk)] at h
    exact h
structure Sav.Right (s : Sav) : Prop where
  actor : 1 ≤ s.actor.size ∧ s.actor.size ≤ 16
  states : s.state.length ≤ 6
  inps : s.inputs.length ≤ 2000
  state : ∀ v ∈ s.state, v.check = 0
  inp : ∀ x ∈ s.inputs, x.check = 0
theorem Sav.right {s : Sav} (h : s.check = 0) : s.Right := by
  unfold Sav.check at h
  split at h
  · omega
  · rename_i h1
    split at h
    · omega
    · rename_i h2
      simp only [Bool.or_eq_true, decide_eq_true_eq, not_or] at h1 h2
      split at h
      · rename_i h3
        exact ⟨by omega, by omega, by omega, errs_zero V.check h3, errs_zero Inp.check h⟩
      · rename_i h3; exact absurd h h3
def rInp (s : RS) : Inp × RS := if (rByte s).1 = 3 then (⟨(rByte s).1, V.zero⟩, (rByte s).2) else (⟨(rByte s).1, (rVal 40 (rByte s).2).1⟩, (rVal 40 (rByte s).2).2)
def rSav (s : RS) : Sav × RS := (⟨bs (rText s).1, (rSome (rVal 40) (rText s).2).1, (rSome rInp (rSome (rVal 40) (rText s).2).2).1⟩, (rSome rInp (rSome (rVal 40) (rText s).2).2).2)
def Inp.fine (x : Inp) : Prop := (0 ≤ x.kind ∧ x.kind < 256) ∧ x.val.ok ∧ (x.kind = 3 → x.val = V.zero)
theorem rInp_ok : Reads rInp Inp.bytes Inp.fine := by
  intro s x s' h hb
  unfold rInp at h
  generalize e1 : rByte s = p1 at h
  obtain ⟨x1, s1⟩ := p1
  dsimp only at h
  split at h
  · rename_i hk
    simp only [Prod.mk.injEq] at h
    obtain ⟨rfl, rfl⟩ := h
    obtain ⟨a, g9, g9'⟩ := rByte_ok e1 hb
    have ha := a.toNat_lt
    refine ⟨?_, ⟨by simp only; omega, by simp only; omega⟩, zero_ok.1, fun _ => rfl⟩
    rw [g9']
    simp only [Inp.bytes, g9, kb_nat]
    rw [if_pos (by omega)]
    simp
  · rename_i hk
    have hv := rVal_ok' 40 s1
    generalize rVal 40 s1 = p6 at *
    obtain ⟨x6, s6⟩ := p6
    simp only [Prod.mk.injEq] at h
    obtain ⟨rfl, rfl⟩ := h
    dsimp only at hv
    obtain ⟨g1, g2, g3⟩ := hv hb
    obtain ⟨a, g9, g9'⟩ := rByte_ok e1 (by rw [g1])
    have ha := a.toNat_lt
    refine ⟨?_, ⟨by simp only; omega, by simp only; omega⟩, g2, fun h => absurd (by simp only at h; omega) hk⟩
    rw [g9', g1]
    simp only [Inp.bytes, g9, kb_nat]
    rw [if_neg (by omega)]
    simp
theorem rInp_to {x : Inp} (h : x.Right) (hok : x.val.ok) (hlen : x.val.bytes.length ≤ 9223372036854775807) (r : List UInt8) : rInp ⟨x.bytes ++ r, false, 0⟩ = (x, ⟨r, false, 0⟩) := by
  obtain ⟨k, v⟩ := x
  have h1 := h.kind
  have hk := kb_toNat (k := k) ⟨by simp only at h1; omega, by simp only at h1; omega⟩
  have hb : rByte ⟨(Inp.mk k v).bytes ++ r, false, 0⟩ = ((kb k).toNat, ⟨(if k = 3 then [] else v.bytes) ++ r, false, 0⟩) := by
    simp only [Inp.bytes, rByte, List.cons_append]
  unfold rInp
  simp only [hb, hk]
  by_cases h3 : k = 3
  · have hz : v = V.zero := h.zero h3
    rw [if_pos (by omega), if_pos h3, hz]
    rfl
  · rw [if_neg (by omega), if_neg h3]
    obtain ⟨c1, c2, c3, c4⟩ := check_ok (h.val h3 : v.check = 0)
    rw [rVal_to v 40 0 r hok c4 hlen c2 (by omega)]
def Sav.fine (s : Sav) : Prop := (∀ v ∈ s.state, v.ok) ∧ ∀ x ∈ s.inputs, x.fine
theorem rSav_ok : Reads rSav Sav.bytes Sav.fine := by
  intro s x s' h hb
  unfold rSav at h
  generalize e1 : rText s = p1 at h
  obtain ⟨x1, s1⟩ := p1
  dsimp only at h
  generalize e2 : rSome (rVal 40) s1 = p2 at h
  obtain ⟨x2, s2⟩ := p2
  dsimp only at h
  generalize e3 : rSome rInp s2 = p3 at h
  obtain ⟨x3, s3⟩ := p3
  simp only [Prod.mk.injEq] at h
  obtain ⟨rfl, rfl⟩ := h
  obtain ⟨g1, g2, g3⟩ := rSome_ok rInp_ok e3 hb
  obtain ⟨g4, g5, g6⟩ := rSome_ok (rVal_ok 40) e2 (by rw [g1])
  obtain ⟨g7, g8⟩ := rText_ok e1 (by rw [g4])
  refine ⟨?_, fun v hv => (g5 v hv).1, g2⟩
  rw [g7, g4, g1]
  simp only [Sav.bytes, bs_size', List.append_assoc]
  simp [bs]
theorem Inp.bytes_pos (x : Inp) : 1 ≤ x.bytes.length := by simp [Inp.bytes]
theorem rSav_to {s : Sav} (h : s.Right) (hs : ∀ v ∈ s.state, v.ok ∧ v.bytes.length ≤ 9223372036854775807) (hi : ∀ x ∈ s.inputs, x.val.ok ∧ x.val.bytes.length ≤ 9223372036854775807) (r : List UInt8) : rSav ⟨s.bytes ++ r, false, 0⟩ = (s, ⟨r, false, 0⟩) := by
  obtain ⟨ac, st, ip⟩ := s
  obtain ⟨a1, a2, a3, a4, a5⟩ := h
  dsimp only at hs hi a1 a2 a3 a4 a5
  have h1 : rText ⟨(Sav.mk ac st ip).bytes ++ r, false, 0⟩ = (ac.data.toList, ⟨uv st.length ++ (st.flatMap V.bytes ++ (uv ip.length ++ (ip.flatMap Inp.bytes ++ r))), false, 0⟩) := by
    have := rText_to ac.data.toList (uv st.length ++ (st.flatMap V.bytes ++ (uv ip.length ++ (ip.flatMap Inp.bytes ++ r)))) 0 (by rw [sz_len]; omega)
    rw [sz_len] at this
    simpa only [Sav.bytes, List.append_assoc] using this
  have h2 : rSome (rVal 40) ⟨uv st.length ++ (st.flatMap V.bytes ++ (uv ip.length ++ (ip.flatMap Inp.bytes ++ r))), false, 0⟩ = (st, ⟨uv ip.length ++ (ip.flatMap Inp.bytes ++ r), false, 0⟩) :=
    rSome_to st _ 0 (by omega) (fun x _ => V.bytes_pos x) fun x hx r => by
      obtain ⟨c1, c2, c3, c4⟩ := check_ok (a4 x hx)
      exact rVal_to x 40 0 r (hs x hx).1 c4 (hs x hx).2 c2 (by omega)
  have h3 : rSome rInp ⟨uv ip.length ++ (ip.flatMap Inp.bytes ++ r), false, 0⟩ = (ip, ⟨r, false, 0⟩) :=
    rSome_to ip r 0 (by omega) (fun x _ => Inp.bytes_pos x) fun x hx r => rInp_to (Inp.right (a5 x hx)) (hi x hx).1 (hi x hx).2 r
  unfold rSav
  simp only [h1, h2, h3, bs_self]
def tRep {α : Type} (g : TS → α × TS) : Nat → TS → List α × TS
  | 0, s => ([], s)
  | n + 1, s => if s.ok then ((g s).1 :: (tRep g n (g s).2).1, (tRep g n (g s).2).2) else ([], s)
theorem tRep_to {α : Type} {g : TS → α × TS} {enc : α → List UInt8} : ∀ (l : List α) (r : List UInt8), (∀ x ∈ l, ∀ r, g ⟨enc x ++ r, true⟩ = (x, ⟨r, true⟩)) → tRep g l.length ⟨l.flatMap enc ++ r, true⟩ = (l, ⟨r, true⟩)
  | [], r, _ => rfl
  | a :: l, r, h => by
    rw [List.length_cons, tRep, if_pos rfl, List.flatMap_cons, List.append_assoc, h a (by simp)]
    dsimp only
    rw [tRep_to l r fun x hx => h x (List.mem_cons_of_mem _ hx)]
def tInp (s : TS) : Inp × TS := if (tOne s).1 = 3 then (⟨(tOne s).1, V.zero⟩, (tOne s).2) else (⟨(tOne s).1, (tWhole (tOne s).2).1⟩, (tWhole (tOne s).2).2)
def tVals (s : TS) : List V × TS := tRep tWhole (tNat s).1 (tNat s).2
def tInps (s : TS) : List Inp × TS := tRep tInp (tNat s).1 (tNat s).2
def tSav (s : TS) : Sav × TS := (⟨bs (tText s).1, (tVals (tText s).2).1, (tInps (tVals (tText s).2).2).1⟩, (tInps (tVals (tText s).2).2).2)
theorem tInp_to {x : Inp} (h : x.Right) (hok : x.val.ok) (r : List UInt8) : tInp ⟨x.bytes ++ r, true⟩ = (x, ⟨r, true⟩) := by
  obtain ⟨k, v⟩ := x
  have h1 := h.kind
  have hk := kb_toNat (k := k) ⟨by simp only at h1; omega, by simp only at h1; omega⟩
  have hb : tOne ⟨(Inp.mk k v).bytes ++ r, true⟩ = ((kb k).toNat, ⟨(if k = 3 then [] else v.bytes) ++ r, true⟩) := by
    simp only [Inp.bytes, tOne, List.cons_append]
  unfold tInp
  simp only [hb, hk]
  by_cases h3 : k = 3
  · have hz : v = V.zero := h.zero h3
    rw [if_pos (by omega), if_pos h3, hz]
    rfl
  · rw [if_neg (by omega), if_neg h3, tWhole_to v r hok (h.val h3)]
theorem tSav_to {s : Sav} (h : s.Right) (hs : ∀ v ∈ s.state, v.ok) (hi : ∀ x ∈ s.inputs, x.val.ok) (r : List UInt8) : tSav ⟨s.bytes ++ r, true⟩ = (s, ⟨r, true⟩) := by
  obtain ⟨ac, st, ip⟩ := s
  obtain ⟨a1, a2, a3, a4, a5⟩ := h
  dsimp only at hs hi a1 a2 a3 a4 a5
  have h1 : tText ⟨(Sav.mk ac st ip).bytes ++ r, true⟩ = (ac.data.toList, ⟨uv st.length ++ (st.flatMap V.bytes ++ (uv ip.length ++ (ip.flatMap Inp.bytes ++ r))), true⟩) := by
    have := tText_to ac.data.toList (uv st.length ++ (st.flatMap V.bytes ++ (uv ip.length ++ (ip.flatMap Inp.bytes ++ r)))) (by rw [sz_len]; omega)
    rw [sz_len] at this
    simpa only [Sav.bytes, List.append_assoc] using this
  have h2 : tVals ⟨uv st.length ++ (st.flatMap V.bytes ++ (uv ip.length ++ (ip.flatMap Inp.bytes ++ r))), true⟩ = (st, ⟨uv ip.length ++ (ip.flatMap Inp.bytes ++ r), true⟩) := by
    unfold tVals
    rw [tNat_to st.length _ (by omega)]
    exact tRep_to st _ fun x hx r => tWhole_to x r (hs x hx) (a4 x hx)
  have h3 : tInps ⟨uv ip.length ++ (ip.flatMap Inp.bytes ++ r), true⟩ = (ip, ⟨r, true⟩) := by
    unfold tInps
    rw [tNat_to ip.length _ (by omega)]
    exact tRep_to ip r fun x hx r => tInp_to (Inp.right (a5 x hx)) (hi x hx) r
  unfold tSav
  simp only [h1, h2, h3, bs_self]
def V.tiny (v : V) : Prop := v.ok ∧ v.size ≤ 1048576 ∧ v.bytes.length ≤ 34000000
structure Sav.Small (s : Sav) : Prop where
  state : ∀ v ∈ s.state, v.tiny
  inp : ∀ x ∈ s.inputs, x.val.tiny
  actor : s.actor.size ≤ 1000000000
/-- no more bytes than before; ok only if it was -/
def Dn (s s' : TS) : Prop := s'.l.length ≤ s.l.length ∧ (s'.ok = true → s.ok = true)
/-- ok only if it was, and bytes were taken -/
def Et (s s' : TS) : Prop := s'.l.length ≤ s.l.length ∧ (s'.ok = true → s.ok = true ∧ s'.l.length < s.l.length)
theorem Dn.refl (s : TS) : Dn s s := ⟨Nat.le_refl _, id⟩
theorem Et.dn {s s' : TS} (h : Et s s') : Dn s s' := ⟨h.1, fun o => (h.2 o).1⟩
theorem Dn.trans {s s' s'' : TS} (h : Dn s s') (h' : Dn s' s'') : Dn s s'' := ⟨Nat.le_trans h'.1 h.1, fun o => h.2 (h'.2 o)⟩
theorem Et.trans {s s' s'' : TS} (h : Et s s') (h' : Dn s' s'') : Et s s'' := ⟨Nat.le_trans h'.1 h.1, fun o => ⟨(h.2 (h'.2 o)).1, Nat.lt_of_le_of_lt h'.1 (h.2 (h'.2 o)).2⟩⟩
theorem et_fail {s s' : TS} (h : Dn s s') : Et s s'.fail := ⟨h.1, fun o => by cases o⟩
theorem tOne_et (s : TS) : Et s (tOne s).2 := by
  obtain ⟨l, o⟩ := s
  cases l with
  | nil => exact et_fail (Dn.refl _)
  | cons a r => exact ⟨by simp [tOne], fun h => ⟨h, by simp [tOne]⟩⟩
theorem tNatL_et : ∀ (k i n : Nat) (s : TS), Et s (tNatL k i n s).2
  | 0, i, n, s => et_fail (Dn.refl _)
  | k + 1, i, n, s => by
    rw [tNatL]
    split
    · exact tOne_et s
    · exact (tOne_et s).trans (tNatL_et k _ _ _).dn
theorem tNat_et (s : TS) : Et s (tNat s).2 := tNatL_et _ _ _ _
theorem tNumL_et : ∀ (k i n : Nat) (s : TS), Et s (tNumL k i n s).2
  | 0, i, n, s => et_fail (Dn.refl _)
  | k + 1, i, n, s => by
    rw [tNumL]
    split
    · exact tOne_et s
    · exact (tOne_et s).trans (tNumL_et k _ _ _).dn
theorem tNum_et (s : TS) : Et s (tNum s).2 := tNumL_et _ _ _ _
theorem tText_et (s : TS) : Et s (tText s).2 := by
  have h := tNat_et s
  unfold tText
  split
  · exact et_fail h.dn
  · refine h.trans ⟨?_, id⟩
    simp only [List.length_drop]
    omega
theorem tLoop_dn {α : Type} {g : TG α} (h : ∀ s m, Dn s (g s m).2.1) : ∀ (n : Nat) (s : TS) (m : Int), Dn s (tLoop g n s m).2.1
  | 0, s, m => Dn.refl _
  | n + 1, s, m => by
    rw [tLoop]
    split
    · exact (h s m).trans (tLoop_dn h n _ _)
    · exact Dn.refl _
theorem tVal_dn : ∀ (d : Nat) (s : TS) (m : Int), Dn s (tVal d s m).2.1 ∧ ((tVal d s m).2.1.ok = true → (tVal d s m).2.1.l.length < s.l.length)
  | 0, s, m => ⟨(et_fail (Dn.refl _)).dn, fun h => by cases h⟩
  | d + 1, s, m => by
    rw [tVal]
    split
    · exact ⟨(et_fail (Dn.refl _)).dn, fun h => by cases h⟩
    · split
      · rename_i h; exact ⟨Dn.refl _, fun h' => by simp only [h] at h'; cases h'⟩
      · have h := ((((tOne_et s).trans (tNum_et _).dn).trans (tText_et _).dn).trans (tNat_et _).dn).trans (tLoop_dn (fun s m => (tVal_dn d s m).1) (tNat (tText (tNum (tOne s).2).2).2).1 (tNat (tText (tNum (tOne s).2).2).2).2 (m - 1))
        exact ⟨h.dn, fun o => (h.2 o).2⟩
theorem tWhole_et (s : TS) : Et s (tWhole s).2 := ⟨(tVal_dn 40 s 400).1.1, fun o => ⟨(tVal_dn 40 s 400).1.2 o, (tVal_dn 40 s 400).2 o⟩⟩
theorem tInp_et (s : TS) : Et s (tInp s).2 := by
  unfold tInp
  split
  · exact tOne_et s
  · exact (tOne_et s).trans (tWhole_et _).dn
theorem tRep_dn {α : Type} {g : TS → α × TS} (h : ∀ s, Et s (g s).2) : ∀ (n : Nat) (s : TS), Dn s (tRep g n s).2 ∧ (tRep g n s).1.length ≤ s.l.length + 1
  | 0, s => ⟨Dn.refl _, by simp [tRep]⟩
  | n + 1, s => by
    rw [tRep]
    split
    · rename_i hs
      obtain ⟨h1, h2⟩ := tRep_dn h n (g s).2
      refine ⟨(h s).dn.trans h1, ?_⟩
      by_cases ho : (g s).2.ok = true
      · have := ((h s).2 ho).2
        simp only [List.length_cons]
        omega
      · have : tRep g n (g s).2 = ([], (g s).2) := by
          cases n with
          | zero => rfl
          | succ n => rw [tRep, if_neg ho]
        simp [this]
    · exact ⟨Dn.refl _, by simp⟩
theorem tRep_all {α : Type} {g : TS → α × TS} {p : α → Prop} (h : ∀ s, p (g s).1) : ∀ (n : Nat) (s : TS), ∀ x ∈ (tRep g n s).1, p x
  | 0, s, x, hx => by simp [tRep] at hx
  | n + 1, s, x, hx => by
    rw [tRep] at hx
    split at hx
    · rcases List.mem_cons.1 hx with rfl | hx
      · exact h s
      · exact tRep_all h n _ x hx
    · simp at hx
theorem zero_tiny : V.zero.tiny := by
  obtain ⟨h1, h2, h3⟩ := zero_fair
  have h4 := V.bytes_len V.zero h1 (by omega) (by omega)
  exact ⟨h1, by omega, by omega⟩
theorem tWhole_tiny (s : TS) : (tWhole s).1.tiny := by
  obtain ⟨h1, h2, h3⟩ := tWhole_fair s
  exact ⟨h1, by omega, by omega⟩
theorem tInp_tiny (s : TS) : (tInp s).1.val.tiny := by
  unfold tInp
  split
  · exact zero_tiny
  · exact tWhole_tiny _
theorem tSav_small (s : TS) (h : s.l.length ≤ 2097152) : (tSav s).1.Small ∧ (tSav s).1.state.length ≤ 2097153 ∧ (tSav s).1.inputs.length ≤ 2097153 := by
  have h1 := tText_len s
  have h2 := (tText_et s).1
  obtain ⟨h3, h4⟩ := tRep_dn tWhole_et (tNat (tText s).2).1 (tNat (tText s).2).2
  have h5 := (tNat_et (tText s).2).1
  obtain ⟨h6, h7⟩ := tRep_dn tInp_et (tNat (tVals (tText s).2).2).1 (tNat (tVals (tText s).2).2).2
  have h8 := (tNat_et (tVals (tText s).2).2).1
  have h9 := h3.1
  unfold tSav
  refine ⟨⟨fun v hv => tRep_all tWhole_tiny _ _ v hv, fun x hx => tRep_all (p := fun x : Inp => x.val.tiny) tInp_tiny _ _ x hx, by simp only [bs_size']; omega⟩, ?_, ?_⟩
  · show (tVals (tText s).2).1.length ≤ _
    unfold tVals
    omega
  · show (tInps (tVals (tText s).2).2).1.length ≤ _
    unfold tInps
    have : (tVals (tText s).2).2.l.length ≤ (tNat (tText s).2).2.l.length := h3.1
    omega
def Sav.out (s : Sav) : List UInt8 := if s.check = 0 then s.bytes else []
def Sav.zero : Sav := ⟨⟨#[]⟩, [], []⟩
end Go.Proofs.Ythgackidonocpaa
namespace Go.Proofs.Ythgackidonocpaa
open Go.RowKit
theorem Sav.check_3 {s : Sav} (h : (decide ((s.actor.size : Int) < 1) || decide ((16 : Int) < (s.actor.size : Int))) = true) : s.check = 3 := by unfold Sav.check; rw [if_pos h]
theorem Sav.check_2 {s : Sav} (h : (decide ((s.actor.size : Int) < 1) || decide ((16 : Int) < (s.actor.size : Int))) = false) (h2 : (decide ((6 : Int) < (s.state.length : Int)) || decide ((2000 : Int) < (s.inputs.length : Int))) = true) : s.check = 2 := by unfold Sav.check; rw [if_neg (by rw [h]; decide), if_pos h2]
theorem Sav.check_r {s : Sav} (h : (decide ((s.actor.size : Int) < 1) || decide ((16 : Int) < (s.actor.size : Int))) = false) (h2 : (decide ((6 : Int) < (s.state.length : Int)) || decide ((2000 : Int) < (s.inputs.length : Int))) = false) : s.check = if errs (s.state.map V.check) = 0 then errs (s.inputs.map Inp.check) else errs (s.state.map V.check) := by unfold Sav.check; rw [if_neg (by rw [h]; decide), if_neg (by rw [h2]; decide)]
theorem Inp.check_bad {x : Inp} (h : x.bad = true) : x.check = 3 := by unfold Inp.check; rw [if_pos h]
theorem Inp.check_3 {x : Inp} (h : x.bad = false) (h3 : x.kind = 3) : x.check = 0 := by unfold Inp.check; rw [if_neg (by rw [h]; decide), if_pos (decide_eq_true h3)]
theorem Inp.check_v {x : Inp} (h : x.bad = false) (h3 : ¬ x.kind = 3) : x.check = x.val.check := by unfold Inp.check; rw [if_neg (by rw [h]; decide), if_neg (by simpa using h3)]
set_option maxRecDepth 100000 in
set_option maxHeartbeats 4000000 in
theorem checkSaved_af (s : Sav) : AF Try.prog 36 [s.t] (· = .lit (.int .i64 s.check)) := by
  have k3 := @Sav.check_3 s
  have k2 := @Sav.check_2 s
  have kr := @Sav.check_r s
  obtain ⟨ac, st, l⟩ := s
  dsimp only at k3 k2 kr
  generalize hck : (Sav.mk ac st l).check = ck at *
  refine af_enter tok Try.func36 Try.ntmps36 Try.results36 rfl (by kernel_rfl) rfl rfl fun F hX => ?_
  cases d1 : decide ((ac.size : Int) < 1)
  rotate_left
  · repeat (first | refine gG ?_ | refine zN1 (fun hlen => ?_) | refine zN2 (fun hlen => ?_) | refine zAl (fun _ => ?_) | refine zBf ?_)
    first | refine zR ?_ | refine zQ ?_
    rw [k3 (by rw [d1]; rfl)]; rfl
  cases d2 : decide ((16 : Int) < (ac.size : Int))
  rotate_left
  · repeat (first | refine gG ?_ | refine zN1 (fun hlen => ?_) | refine zN2 (fun hlen => ?_) | refine zAl (fun _ => ?_) | refine zBf ?_)
    first | refine zR ?_ | refine zQ ?_
    rw [k3 (by rw [d1, d2]; rfl)]; rfl
  have j1 : (decide ((ac.size : Int) < 1) || decide ((16 : Int) < (ac.size : Int))) = false := by rw [d1, d2]; rfl
  cases d3 : decide ((6 : Int) < (st.length : Int))
  rotate_left
  · repeat (first | refine gG ?_ | refine zN1 (fun hlen => ?_) | refine zN2 (fun hlen => ?_) | refine zAl (fun _ => ?_) | refine zBf ?_)
    first | refine zR ?_ | refine zQ ?_
    rw [k2 j1 (by rw [d3]; rfl)]; rfl
  cases d4 : decide ((2000 : Int) < (l.length : Int))
  rotate_left
  · repeat (first | refine gG ?_ | refine zN1 (fun hlen => ?_) | refine zN2 (fun hlen => ?_) | refine zAl (fun _ => ?_) | refine zBf ?_)
    first | refine zR ?_ | refine zQ ?_
    rw [k2 j1 (by rw [d3, d4]; rfl)]; rfl
  have kr := kr j1 (by rw [d3, d4]; rfl)
  clear k3 k2 j1
  repeat (first | refine gG ?_ | refine zN1 (fun hlen => ?_) | refine zN2 (fun hlen => ?_) | refine zAl (fun _ => ?_) | refine zBf ?_)
  refine x_loop [2, 4, 5, 34, 35, 36, 37, 38, 39, 40, 41, 42, 43] (fun k : Nat => [(34, .c (.lit (.int .i64 k)))]) (fun _ => []) (fun k => k ≤ st.length ∧ ∀ x ∈ st.take k, V.check x = 0) (fun k => st.length - k) 0 ⟨Nat.zero_le _, by simp⟩ ⟨rfl, trivial⟩ rfl ?_
  rintro k ⟨hk, hz⟩
  repeat (first | refine gG ?_ | refine zN1 (fun hlen => ?_) | refine zN2 (fun hlen => ?_) | refine zAl (fun _ => ?_) | refine zBx (fun _ => ?_))
  refine x_cond rfl (fun h => ?_) (fun h => ?_)
  · have hk' : k < st.length := by simpa using h
    obtain ⟨a, ha⟩ := nth hk'
    have hs := check_af a
    have he := errs_at V.check hz ha
    have hsn := take_snoc (p := fun x => V.check x = 0) ha hz
    repeat (first | refine gG ?_ | refine zN1 (fun hlen => ?_) | refine zN2 (fun hlen => ?_) | refine zAl (fun _ => ?_) | refine zBx (fun _ => ?_))
    refine zIx (k) (hk') ?_
    repeat (first | refine gG ?_ | refine zN1 (fun hlen => ?_) | refine zN2 (fun hlen => ?_) | refine zAl (fun _ => ?_) | refine zBx (fun _ => ?_))
    refine zEl (V.at ha) (V.ts_len a) ?_
    generalize hca : a.check = ca at *
    obtain ⟨ka, na, ta, la⟩ := a
    repeat (first | refine gG ?_ | refine zN1 (fun hlen => ?_) | refine zN2 (fun hlen => ?_) | refine zAl (fun _ => ?_) | refine zBx (fun _ => ?_))
    refine zCall (hs) ?_
    rintro _ rfl
    cases c1 : decide (ca = 0)
    · have c0 : ¬ ca = 0 := of_decide_eq_false c1
      repeat (first | refine gG ?_ | refine zN1 (fun hlen => ?_) | refine zN2 (fun hlen => ?_) | refine zAl (fun _ => ?_) | refine zBx (fun _ => ?_))
      first | refine zR ?_ | refine zQ ?_
      rw [kr, he c0, if_neg c0]; rfl
    · have c0 : ca = 0 := of_decide_eq_true c1
      repeat (first | refine gG ?_ | refine zN1 (fun hlen => ?_) | refine zN2 (fun hlen => ?_) | refine zAl (fun _ => ?_) | refine zBx (fun _ => ?_))
      exact ⟨k + 1, ⟨hk', hsn c0⟩, by omega, x_wkd 0 ⟨rfl, trivial⟩ rfl (by repeat (first | exact ag_refl | refine ag_upd rfl ?_ | refine ag_at rfl rfl ?_))⟩
  · have hk' : k = st.length := by have : ¬ k < st.length := by simpa using h
                                   omega
    subst hk'
    rw [List.take_length] at hz
    rw [errs_all V.check hz, if_pos rfl] at kr
    repeat (first | refine gG ?_ | refine zN1 (fun hlen => ?_) | refine zN2 (fun hlen => ?_) | refine zAl (fun _ => ?_) | refine zBx (fun _ => ?_))
    refine x_loop [2, 7, 8, 47, 48, 49, 50, 51, 52, 53, 54, 55, 56, 57, 58, 59, 60, 61, 62, 63, 64, 65, 66, 67, 68, 69, 70, 71, 72, 73, 74, 75, 76, 77, 78, 79, 80, 81] (fun k : Nat => [(47, .c (.lit (.int .i64 k)))]) (fun _ => []) (fun k => k ≤ l.length ∧ ∀ x ∈ l.take k, Inp.check x = 0) (fun k => l.length - k) 0 ⟨Nat.zero_le _, by simp⟩ ⟨rfl, trivial⟩ rfl ?_
    rintro k ⟨hk, hz⟩
    repeat (first | refine gG ?_ | refine zN1 (fun hlen => ?_) | refine zN2 (fun hlen => ?_) | refine zAl (fun _ => ?_) | refine zBx (fun _ => ?_))
    refine x_cond rfl (fun h => ?_) (fun h => ?_)
    · have hk' : k < l.length := by simpa using h
      obtain ⟨a, ha⟩ := nth hk'
      have hs := check_af a.val
      have hz3 := isZero_af a.val
      have he := errs_at Inp.check hz ha
      have hsn := take_snoc (p := fun x => Inp.check x = 0) ha hz
      have kb := @Inp.check_bad a
      have k3 := @Inp.check_3 a
      have kv := @Inp.check_v a
      repeat (first | refine gG ?_ | refine zN1 (fun hlen => ?_) | refine zN2 (fun hlen => ?_) | refine zAl (fun _ => ?_) | refine zBx (fun _ => ?_))
      refine zIx (k) (hk') ?_
      repeat (first | refine gG ?_ | refine zN1 (fun hlen => ?_) | refine zN2 (fun hlen => ?_) | refine zAl (fun _ => ?_) | refine zBx (fun _ => ?_))
      refine zEl (flat_at Inp.ts 5 Inp.ts_len ha) (Inp.ts_len a) ?_
      obtain ⟨kd, v⟩ := a
      simp only [Inp.bad] at kb k3 kv
      dsimp only at hs hz3 kb k3 kv
      generalize (Inp.mk kd v).check = ca at *
      generalize v.check = cv at *
      generalize v.isZ = zv at *
      obtain ⟨ka, na, ta, la⟩ := v
      cases e1 : decide (kd < 1)
      rotate_left
      · have kb := kb (by rw [e1]; rfl)
        repeat (first | refine gG ?_ | refine zN1 (fun hlen => ?_) | refine zN2 (fun hlen => ?_) | refine zAl (fun _ => ?_) | refine zBx (fun _ => ?_))
        first | refine zR ?_ | refine zQ ?_
        rw [kr, he (by omega), kb]; rfl
      cases e2 : decide ((3 : Int) < kd)
      rotate_left
      · have kb := kb (by rw [e1, e2]; rfl)
        repeat (first | refine gG ?_ | refine zN1 (fun hlen => ?_) | refine zN2 (fun hlen => ?_) | refine zAl (fun _ => ?_) | refine zBx (fun _ => ?_))
        first | refine zR ?_ | refine zQ ?_
        rw [kr, he (by omega), kb]; rfl
      cases e3 : decide (kd = 3)
      · have kv := kv (by rw [e1, e2, e3]; rfl) (of_decide_eq_false e3)
        repeat (first | refine gG ?_ | refine zN1 (fun hlen => ?_) | refine zN2 (fun hlen => ?_) | refine zAl (fun _ => ?_) | refine zBx (fun _ => ?_))
        refine zCall (hs) ?_
        rintro _ rfl
        cases c1 : decide (cv = 0)
        · have c0 : ¬ cv = 0 := of_decide_eq_false c1
          repeat (first | refine gG ?_ | refine zN1 (fun hlen => ?_) | refine zN2 (fun hlen => ?_) | refine zAl (fun _ => ?_) | refine zBx (fun _ => ?_))
          first | refine zR ?_ | refine zQ ?_
          rw [kr, he (by omega), kv]; rfl
        · have c0 : cv = 0 := of_decide_eq_true c1
          repeat (first | refine gG ?_ | refine zN1 (fun hlen => ?_) | refine zN2 (fun hlen => ?_) | refine zAl (fun _ => ?_) | refine zBx (fun _ => ?_))
          exact ⟨k + 1, ⟨hk', hsn (by omega)⟩, by omega, x_wkd 0 ⟨rfl, trivial⟩ rfl (by repeat (first | exact ag_refl | refine ag_upd rfl ?_ | refine ag_at rfl rfl ?_))⟩
      · cases zv
        · have kb := kb (by rw [e1, e2, e3]; rfl)
          repeat (first | refine gG ?_ | refine zN1 (fun hlen => ?_) | refine zN2 (fun hlen => ?_) | refine zAl (fun _ => ?_) | refine zBx (fun _ => ?_))
          refine zCall (hz3) ?_
          rintro _ rfl
          repeat (first | refine gG ?_ | refine zN1 (fun hlen => ?_) | refine zN2 (fun hlen => ?_) | refine zAl (fun _ => ?_) | refine zBx (fun _ => ?_))
          first | refine zR ?_ | refine zQ ?_
          rw [kr, he (by omega), kb]; rfl
        · have k3 := k3 (by rw [e1, e2, e3]; rfl) (of_decide_eq_true e3)
          repeat (first | refine gG ?_ | refine zN1 (fun hlen => ?_) | refine zN2 (fun hlen => ?_) | refine zAl (fun _ => ?_) | refine zBx (fun _ => ?_))
          refine zCall (hz3) ?_
          rintro _ rfl
          repeat (first | refine gG ?_ | refine zN1 (fun hlen => ?_) | refine zN2 (fun hlen => ?_) | refine zAl (fun _ => ?_) | refine zBx (fun _ => ?_))
          exact ⟨k + 1, ⟨hk', hsn (by omega)⟩, by omega, x_wkd 0 ⟨rfl, trivial⟩ rfl (by repeat (first | exact ag_refl | refine ag_upd rfl ?_ | refine ag_at rfl rfl ?_))⟩
    · have hk' : k = l.length := by have : ¬ k < l.length := by simpa using h
                                    omega
      subst hk'
      rw [List.take_length] at hz
      rw [errs_all Inp.check hz] at kr
      repeat (first | refine gG ?_ | refine zN1 (fun hlen => ?_) | refine zN2 (fun hlen => ?_) | refine zAl (fun _ => ?_) | refine zBx (fun _ => ?_))
      first | refine zR ?_ | refine zQ ?_
      rw [kr]; rfl
set_option maxRecDepth 100000 in
set_option maxHeartbeats 2000000 in
theorem listI_ag (f : FuncId) (enc : Inp → List UInt8) (l : List Inp) (hf : ∀ x ∈ l, ∀ (v : Value) (b : List UInt8), b.length + (enc x).length ≤ 1099511627776 → AG Try.prog f [.own 0 v, .c (.agg (Inp.ts x))] [.row v 5 1 b.length (byts b)] (Grew 5 (b ++ enc x)))
    (v : Value) (b : List UInt8) (hn : l.length < 9223372036854775808) (hb : b.length + (uv l.length ++ l.flatMap enc).length ≤ 1099511627776) :
    AG Try.prog 172 [.own 0 v, .c (inpRow l), .fn (.func f) []] [.row v 5 1 b.length (byts b)] (Grew 5 (b ++ (uv l.length ++ l.flatMap enc))) := by
  have hc := nat_ag v b l.length hn (by omega)
  refine ag_enter 1 tok Try.func172 Try.ntmps172 Try.results172 rfl (by kernel_rfl) rfl fun F => ?_
  repeat (first | refine gG ?_ | refine zN1 (fun hlen => ?_) | refine zN2 (fun hlen => ?_) | refine zAl (fun _ => ?_))
  refine zCallG [0] hc ?_
  rintro _ _ ⟨v', rfl, rfl⟩
  refine ⟨.own 0 v', _, re_own, rfl, rfl, ?_⟩
  repeat (first | refine gG ?_ | refine zN1 (fun hlen => ?_) | refine zN2 (fun hlen => ?_) | refine zAl (fun _ => ?_))
  refine x_loop [0, 8, 15, 16, 17, 18, 19, 20, 21, 22, 23] (fun y : Nat × Value => [(15, .c (.lit (.int .i64 (y.1 : Nat)))), (0, .own 0 y.2)]) (fun y => [.row y.2 5 1 (b ++ (uv l.length ++ (l.take y.1).flatMap enc)).length (byts (b ++ (uv l.length ++ (l.take y.1).flatMap enc)))])
    (fun y => y.1 ≤ l.length) (fun y => l.length - y.1) (0, v') (Nat.zero_le _) ⟨rfl, rfl, trivial⟩ (by simp) ?_
  rintro ⟨k, u⟩ hk
  dsimp only at hk ⊢
  repeat (first | refine gG ?_ | refine zN1 (fun hlen => ?_) | refine zN2 (fun hlen => ?_) | refine zAl (fun _ => ?_))
  refine x_cond rfl (fun h => ?_) (fun h => ?_)
  · have hk' : k < l.length := by simpa using h
    obtain ⟨a, ha⟩ := nth hk'
    have hsn := flat_snoc' enc ha
    have hle : ((l.take (k + 1)).flatMap enc).length ≤ (l.flatMap enc).length := by
      have := congrArg (fun r => (List.flatMap enc r).length) (List.take_append_drop (k + 1) l)
      simp only [List.flatMap_append, List.length_append] at this
      omega
    have hca := hf a (List.mem_of_getElem? ha) u (b ++ (uv l.length ++ (l.take k).flatMap enc)) (by
      rw [hsn] at hle
      simp only [List.length_append] at hle hb ⊢
      omega)
    repeat (first | refine gG ?_ | refine zN1 (fun hlen => ?_) | refine zN2 (fun hlen => ?_) | refine zAl (fun _ => ?_))
    refine zIx (k) (hk') ?_
    repeat (first | refine gG ?_ | refine zN1 (fun hlen => ?_) | refine zN2 (fun hlen => ?_) | refine zAl (fun _ => ?_))
    refine zEl (flat_at Inp.ts 5 Inp.ts_len ha) (Inp.ts_len a) ?_
    obtain ⟨kd, ⟨ka, na, ta, la⟩⟩ := a
    repeat (first | refine gG ?_ | refine zN1 (fun hlen => ?_) | refine zN2 (fun hlen => ?_) | refine zAl (fun _ => ?_))
    refine zCallG [0] hca ?_
    rintro _ _ ⟨u', rfl, rfl⟩
    refine ⟨.own 0 u', _, re_own, rfl, rfl, ?_⟩
    repeat (first | refine gG ?_ | refine zN1 (fun hlen => ?_) | refine zN2 (fun hlen => ?_) | refine zAl (fun _ => ?_))
    exact ⟨(k + 1, u'), hk', by simp only; omega, x_wkd 1 ⟨rfl, rfl, trivial⟩ (by simp only [hsn, List.append_assoc]; rfl) (by repeat (first | exact ag_refl | refine ag_upd rfl ?_ | refine ag_at rfl rfl ?_))⟩
  · have hk' : k = l.length := by have : ¬ k < l.length := by simpa using h
                                  omega
    subst hk'
    repeat (first | refine gG ?_ | refine zN1 (fun hlen => ?_) | refine zN2 (fun hlen => ?_) | refine zAl (fun _ => ?_))
    refine zG ?_
    refine ⟨_, rfl, ?_⟩
    rw [List.take_length]
set_option maxRecDepth 100000 in
set_option maxHeartbeats 4000000 in
theorem appendInput_ag (x : Inp) (hok : x.val.ok) (v : Value) (b : List UInt8) (hb : b.length + x.bytes.length ≤ 1099511627776) :
    AG Try.prog 173 [.own 0 v, .c (.agg x.ts)] [.row v 5 1 b.length (byts b)] (Grew 5 (b ++ x.bytes)) := by
  obtain ⟨k, y⟩ := x
  simp only [Inp.bytes] at hb ⊢
  by_cases hk : k = 3
  · rw [if_pos hk] at hb ⊢
    have d1 : decide (k = 3) = true := decide_eq_true hk
    obtain ⟨ky, ny, ty, ly⟩ := y
    refine ag_enter 1 tok Try.func173 Try.ntmps173 Try.results173 rfl (by kernel_rfl) rfl fun F => ?_
    repeat (first | refine gX ?_ | refine zBf ?_ | refine zAp (fun _ => ?_))
    refine lo_conv tok rfl rfl rfl rfl rfl ?_
    repeat (first | refine gG ?_ | refine zBf ?_ | refine zAp (fun _ => ?_))
    refine zG ?_
    exact ⟨_, rfl, by rw [byts_app, List.length_append, ← kb_T]; rfl⟩
  · rw [if_neg hk] at hb ⊢
    simp only [List.length_cons] at hb
    have d1 : decide (k = 3) = false := decide_eq_false hk
    have hi1 : ∀ v1, AG Try.prog 74 [.own 0 v1, .c y.t] [.row v1 5 1 (b.length + 1) (byts b ++ [.lit (.int .u8 (IntKind.u8.wrap k))])] (Grew 5 (b ++ (kb k :: y.bytes))) := by
      intro v1
      have h := appendValue_ag y hok v1 (b ++ [kb k]) (by simp only [List.length_append, List.length_cons, List.length_nil]; omega)
      rw [← kb_T]
      simpa [byts] using h
    generalize y.bytes = yb at *
    obtain ⟨ky, ny, ty, ly⟩ := y
    refine ag_enter 1 tok Try.func173 Try.ntmps173 Try.results173 rfl (by kernel_rfl) rfl fun F => ?_
    repeat (first | refine gX ?_ | refine zBf ?_ | refine zAp (fun _ => ?_))
    refine lo_conv tok rfl rfl rfl rfl rfl ?_
    repeat (first | refine gG ?_ | refine zBf ?_ | refine zAp (fun _ => ?_))
    refine zCallG [0] (hi1 _) ?_
    rintro _ _ ⟨v', rfl, rfl⟩
    refine ⟨.own 0 v', _, re_own, rfl, rfl, ?_⟩
    repeat (first | refine gG ?_ | refine zBx (fun _ => ?_) | refine zAp (fun _ => ?_))
    refine zG ?_
    exact ⟨_, rfl, rfl⟩
theorem Inp.bytes_le {x : Inp} (h : x.val.tiny) : x.bytes.length ≤ 34000001 := by
  have := h.2.2
  unfold Inp.bytes
  split <;> simp only [List.length_cons, List.length_nil] <;> omega
theorem flat_le {α : Type} (f : α → List UInt8) (B : Nat) : ∀ {l : List α}, (∀ x ∈ l, (f x).length ≤ B) → (l.flatMap f).length ≤ l.length * B
  | [], _ => by simp
  | a :: l, h => by
    have h1 := h a (by simp)
    have h2 := flat_le f B (l := l) fun x hx => h x (List.mem_cons_of_mem _ hx)
    simp only [List.flatMap_cons, List.length_append, List.length_cons, Nat.succ_mul]
    omega
theorem Sav.bytes_le {s : Sav} (hs : s.Small) (h : s.Right) : s.bytes.length ≤ 68300000000 := by
  have h1 := flat_le V.bytes 34000000 (l := s.state) fun v hv => (hs.state v hv).2.2
  have h2 := flat_le Inp.bytes 34000001 (l := s.inputs) fun x hx => Inp.bytes_le (hs.inp x hx)
  have h3 := h.actor
  have h4 := h.states
  have h5 := h.inps
  have u1 := uv_len64 (n := s.actor.size) (by omega)
  have u2 := uv_len64 (n := s.state.length) (by omega)
  have u3 := uv_len64 (n := s.inputs.length) (by omega)
  have h6 : s.state.length * 34000000 ≤ 6 * 34000000 := Nat.mul_le_mul_right _ h4
  have h7 : s.inputs.length * 34000001 ≤ 2000 * 34000001 := Nat.mul_le_mul_right _ h5
  simp only [Sav.bytes, List.length_append, sz_len]
  omega
set_option maxRecDepth 100000 in
set_option maxHeartbeats 4000000 in
theorem appendSaved_ag (s : Sav) (hst : ∀ v ∈ s.state, v.ok) (hin : ∀ x ∈ s.inputs, x.val.ok) (h1 : s.state.length ≤ 6) (h2 : s.inputs.length ≤ 2000) (v : Value) (b : List UInt8) (hb : b.length + s.bytes.length ≤ 1099511627776) :
    AG Try.prog 98 [.own 0 v, .c s.t] [.row v 5 1 b.length (byts b)] (Grew 5 (b ++ s.bytes)) := by
  obtain ⟨ac, st, l⟩ := s
  dsimp only at hst hin h1 h2
  have e0 : (Sav.mk ac st l).bytes = uv ac.size ++ (ac.data.toList ++ (uv st.length ++ (st.flatMap V.bytes ++ (uv l.length ++ l.flatMap Inp.bytes)))) := rfl
  rw [e0] at hb ⊢
  simp only [List.length_append, sz_len] at hb
  have c1 := text_ag v b ac (by omega)
  have c2 := fun v2 => listV_ag 74 V.bytes st (fun x hx v b hb => appendValue_ag x (hst x hx) v b hb) v2 (b ++ (uv ac.size ++ ac.data.toList)) (by omega) (by simp only [List.length_append, sz_len]; omega)
  have c3 := fun v3 => listI_ag 173 Inp.bytes l (fun x hx v b hb => appendInput_ag x (hin x hx) v b hb) v3 (b ++ (uv ac.size ++ ac.data.toList) ++ (uv st.length ++ st.flatMap V.bytes)) (by omega) (by simp only [List.length_append, sz_len]; omega)
  refine ag_enter 1 tok Try.func98 Try.ntmps98 Try.results98 rfl (by kernel_rfl) rfl fun F => ?_
  repeat (first | refine gG ?_ | refine zBf ?_)
  refine ac_draw [0, 0, 0, 2, 0, 0, 2, 0, 0, 2, 1] [0, 1, 2, 4, 5, 7, 8, 3, 6, 9, 10] (by kernel_rfl) (by kernel_rfl) ?_
  refine gW ?_
  apply w_l; (focus exact rfl); (focus exact rfl); (refine zCallG [0] c1 ?_; rintro _ _ ⟨v', rfl, rfl⟩; refine ⟨.own 0 v', _, re_own, rfl, rfl, ?_⟩)
  apply w_l; (focus exact rfl); (focus exact rfl); (refine zCallG [0] (c2 _) ?_; rintro _ _ ⟨v', rfl, rfl⟩; refine ⟨.own 0 v', _, re_own, rfl, rfl, ?_⟩)
  apply w_l; (focus exact rfl); (focus exact rfl); (refine zCallG [0] (c3 _) ?_; rintro _ _ ⟨v', rfl, rfl⟩; refine ⟨.own 0 v', _, re_own, rfl, rfl, ?_⟩)
  refine gW ?_
  refine w_nil ?_
  repeat (first | refine gG ?_ | refine zBx (fun _ => ?_))
  refine zG ?_
  exact ⟨_, rfl, by simp only [List.append_assoc]⟩
end Go.Proofs.Ythgackidonocpaa
namespace Go.Proofs.Ythgackidonocpaa
open Go.RowKit
theorem size_lt1 (s : ByteArray) : decide (s = ⟨#[]⟩) = decide ((s.size : Int) < 1) := by
  by_cases h : s = ⟨#[]⟩
  · subst h; rfl
  · rw [decide_eq_false h, decide_eq_false]
    intro h1
    apply h
    have h2 : s.size = 0 := by omega
    obtain ⟨⟨l⟩⟩ := s
    have h3 : l.length = 0 := h2
    rw [List.eq_nil_of_length_eq_zero h3]
set_option maxRecDepth 100000 in
set_option maxHeartbeats 4000000 in
theorem savedFault_af (s : Sav) (hst : ∀ v ∈ s.state, v.size ≤ 1048576) (hin : ∀ x ∈ s.inputs, x.val.size ≤ 1048576) : AF Try.prog 37 [s.t] (· = .lit (.int .i64 s.check)) := by
  have k3 := @Sav.check_3 s
  have k2 := @Sav.check_2 s
  have kr := @Sav.check_r s
  obtain ⟨ac, st, l⟩ := s
  dsimp only at k3 k2 kr hst hin
  generalize hck : (Sav.mk ac st l).check = ck at *
  refine af_enter tok Try.func37 Try.ntmps37 Try.results37 rfl (by kernel_rfl) rfl rfl fun F hX => ?_
  have e0 : decide (ac = ⟨#[]⟩) = decide ((ac.size : Int) < 1) := size_lt1 ac
  cases d1 : decide ((ac.size : Int) < 1) <;> rw [d1] at e0
  rotate_left
  · repeat (first | refine gG ?_ | refine zN1 (fun hlen => ?_) | refine zN2 (fun hlen => ?_) | refine zAl (fun _ => ?_) | refine zBf ?_)
    first | refine zR ?_ | refine zQ ?_
    rw [k3 (by rw [d1]; rfl)]; rfl
  cases d2 : decide ((16 : Int) < (ac.size : Int))
  rotate_left
  · repeat (first | refine gG ?_ | refine zN1 (fun hlen => ?_) | refine zN2 (fun hlen => ?_) | refine zAl (fun _ => ?_) | refine zBf ?_)
    first | refine zR ?_ | refine zQ ?_
    rw [k3 (by rw [d1, d2]; rfl)]; rfl
  have j1 : (decide ((ac.size : Int) < 1) || decide ((16 : Int) < (ac.size : Int))) = false := by rw [d1, d2]; rfl
  cases d3 : decide ((6 : Int) < (st.length : Int))
  rotate_left
  · repeat (first | refine gG ?_ | refine zN1 (fun hlen => ?_) | refine zN2 (fun hlen => ?_) | refine zAl (fun _ => ?_) | refine zBf ?_)
    first | refine zR ?_ | refine zQ ?_
    rw [k2 j1 (by rw [d3]; rfl)]; rfl
  cases d4 : decide ((2000 : Int) < (l.length : Int))
  rotate_left
  · repeat (first | refine gG ?_ | refine zN1 (fun hlen => ?_) | refine zN2 (fun hlen => ?_) | refine zAl (fun _ => ?_) | refine zBf ?_)
    first | refine zR ?_ | refine zQ ?_
    rw [k2 j1 (by rw [d3, d4]; rfl)]; rfl
  have kr := kr j1 (by rw [d3, d4]; rfl)
  clear k3 k2 j1
  repeat (first | refine gG ?_ | refine zN1 (fun hlen => ?_) | refine zN2 (fun hlen => ?_) | refine zAl (fun _ => ?_) | refine zBf ?_)
  refine x_loop [2, 4, 5, 31, 32, 33, 34, 35, 36, 37, 38, 39, 40] (fun k : Nat => [(31, .c (.lit (.int .i64 k)))]) (fun _ => []) (fun k => k ≤ st.length ∧ ∀ x ∈ st.take k, V.check x = 0) (fun k => st.length - k) 0 ⟨Nat.zero_le _, by simp⟩ ⟨rfl, trivial⟩ rfl ?_
  rintro k ⟨hk, hz⟩
  repeat (first | refine gG ?_ | refine zN1 (fun hlen => ?_) | refine zN2 (fun hlen => ?_) | refine zAl (fun _ => ?_) | refine zBx (fun _ => ?_))
  refine x_cond rfl (fun h => ?_) (fun h => ?_)
  · have hk' : k < st.length := by simpa using h
    obtain ⟨a, ha⟩ := nth hk'
    have hs := valueFault_af a (hst a (List.mem_of_getElem? ha))
    have he := errs_at V.check hz ha
    have hsn := take_snoc (p := fun x => V.check x = 0) ha hz
    repeat (first | refine gG ?_ | refine zN1 (fun hlen => ?_) | refine zN2 (fun hlen => ?_) | refine zAl (fun _ => ?_) | refine zBx (fun _ => ?_))
    refine zIx (k) (hk') ?_
    repeat (first | refine gG ?_ | refine zN1 (fun hlen => ?_) | refine zN2 (fun hlen => ?_) | refine zAl (fun _ => ?_) | refine zBx (fun _ => ?_))
    refine zEl (V.at ha) (V.ts_len a) ?_
    generalize hca : a.check = ca at *
    obtain ⟨ka, na, ta, la⟩ := a
    repeat (first | refine gG ?_ | refine zN1 (fun hlen => ?_) | refine zN2 (fun hlen => ?_) | refine zAl (fun _ => ?_) | refine zBx (fun _ => ?_))
    refine zCall (hs) ?_
    rintro _ rfl
    cases c1 : decide (ca = 0)
    · have c0 : ¬ ca = 0 := of_decide_eq_false c1
      repeat (first | refine gG ?_ | refine zN1 (fun hlen => ?_) | refine zN2 (fun hlen => ?_) | refine zAl (fun _ => ?_) | refine zBx (fun _ => ?_))
      first | refine zR ?_ | refine zQ ?_
      rw [kr, he c0, if_neg c0]; rfl
    · have c0 : ca = 0 := of_decide_eq_true c1
      repeat (first | refine gG ?_ | refine zN1 (fun hlen => ?_) | refine zN2 (fun hlen => ?_) | refine zAl (fun _ => ?_) | refine zBx (fun _ => ?_))
      exact ⟨k + 1, ⟨hk', hsn c0⟩, by omega, x_wkd 0 ⟨rfl, trivial⟩ rfl (by repeat (first | exact ag_refl | refine ag_upd rfl ?_ | refine ag_at rfl rfl ?_))⟩
  · have hk' : k = st.length := by have : ¬ k < st.length := by simpa using h
                                   omega
    subst hk'
    rw [List.take_length] at hz
    rw [errs_all V.check hz, if_pos rfl] at kr
    repeat (first | refine gG ?_ | refine zN1 (fun hlen => ?_) | refine zN2 (fun hlen => ?_) | refine zAl (fun _ => ?_) | refine zBx (fun _ => ?_))
    refine x_loop [2, 7, 8, 44, 45, 46, 47, 48, 49, 50, 51, 52, 53, 54, 55, 56, 57, 58, 59, 60, 61, 62, 63, 64, 65, 66, 67, 68, 69, 70, 71, 72, 73, 74, 75, 76] (fun k : Nat => [(44, .c (.lit (.int .i64 k)))]) (fun _ => []) (fun k => k ≤ l.length ∧ ∀ x ∈ l.take k, Inp.check x = 0) (fun k => l.length - k) 0 ⟨Nat.zero_le _, by simp⟩ ⟨rfl, trivial⟩ rfl ?_
    rintro k ⟨hk, hz⟩
    repeat (first | refine gG ?_ | refine zN1 (fun hlen => ?_) | refine zN2 (fun hlen => ?_) | refine zAl (fun _ => ?_) | refine zBx (fun _ => ?_))
    refine x_cond rfl (fun h => ?_) (fun h => ?_)
    · have hk' : k < l.length := by simpa using h
      obtain ⟨a, ha⟩ := nth hk'
      have hs := valueFault_af a.val (hin a (List.mem_of_getElem? ha))
      have hz3 := none_af a.val
      have he := errs_at Inp.check hz ha
      have hsn := take_snoc (p := fun x => Inp.check x = 0) ha hz
      have kb := @Inp.check_bad a
      have k3 := @Inp.check_3 a
      have kv := @Inp.check_v a
      repeat (first | refine gG ?_ | refine zN1 (fun hlen => ?_) | refine zN2 (fun hlen => ?_) | refine zAl (fun _ => ?_) | refine zBx (fun _ => ?_))
      refine zIx (k) (hk') ?_
      repeat (first | refine gG ?_ | refine zN1 (fun hlen => ?_) | refine zN2 (fun hlen => ?_) | refine zAl (fun _ => ?_) | refine zBx (fun _ => ?_))
      refine zEl (flat_at Inp.ts 5 Inp.ts_len ha) (Inp.ts_len a) ?_
      obtain ⟨kd, v⟩ := a
      simp only [Inp.bad] at kb k3 kv
      dsimp only at hs hz3 kb k3 kv
      generalize (Inp.mk kd v).check = ca at *
      generalize v.check = cv at *
      generalize v.isZ = zv at *
      obtain ⟨ka, na, ta, la⟩ := v
      cases e1 : decide (kd < 1)
      rotate_left
      · have kb := kb (by rw [e1]; rfl)
        repeat (first | refine gG ?_ | refine zN1 (fun hlen => ?_) | refine zN2 (fun hlen => ?_) | refine zAl (fun _ => ?_) | refine zBx (fun _ => ?_))
        first | refine zR ?_ | refine zQ ?_
        rw [kr, he (by omega), kb]; rfl
      cases e2 : decide ((3 : Int) < kd)
      rotate_left
      · have kb := kb (by rw [e1, e2]; rfl)
        repeat (first | refine gG ?_ | refine zN1 (fun hlen => ?_) | refine zN2 (fun hlen => ?_) | refine zAl (fun _ => ?_) | refine zBx (fun _ => ?_))
        first | refine zR ?_ | refine zQ ?_
        rw [kr, he (by omega), kb]; rfl
      cases e3 : decide (kd = 3)
      · have e4 : decide (kd < 3) = true := decide_eq_true (by have := of_decide_eq_false e2; have := of_decide_eq_false e3; omega)
        have kv := kv (by rw [e1, e2, e3]; rfl) (of_decide_eq_false e3)
        repeat (first | refine gG ?_ | refine zN1 (fun hlen => ?_) | refine zN2 (fun hlen => ?_) | refine zAl (fun _ => ?_) | refine zBx (fun _ => ?_))
        refine zCall (hs) ?_
        rintro _ rfl
        cases c1 : decide (cv = 0)
        · have c0 : ¬ cv = 0 := of_decide_eq_false c1
          repeat (first | refine gG ?_ | refine zN1 (fun hlen => ?_) | refine zN2 (fun hlen => ?_) | refine zAl (fun _ => ?_) | refine zBx (fun _ => ?_))
          first | refine zR ?_ | refine zQ ?_
          rw [kr, he (by omega), kv]; rfl
        · have c0 : cv = 0 := of_decide_eq_true c1
          repeat (first | refine gG ?_ | refine zN1 (fun hlen => ?_) | refine zN2 (fun hlen => ?_) | refine zAl (fun _ => ?_) | refine zBx (fun _ => ?_))
          exact ⟨k + 1, ⟨hk', hsn (by omega)⟩, by omega, x_wkd 0 ⟨rfl, trivial⟩ rfl (by repeat (first | exact ag_refl | refine ag_upd rfl ?_ | refine ag_at rfl rfl ?_))⟩
      · have e4 : decide (kd < 3) = false := decide_eq_false (by have := of_decide_eq_true e3; omega)
        cases zv
        · have kb := kb (by rw [e1, e2, e3]; rfl)
          repeat (first | refine gG ?_ | refine zN1 (fun hlen => ?_) | refine zN2 (fun hlen => ?_) | refine zAl (fun _ => ?_) | refine zBx (fun _ => ?_))
          refine zCall (hz3) ?_
          rintro _ rfl
          repeat (first | refine gG ?_ | refine zN1 (fun hlen => ?_) | refine zN2 (fun hlen => ?_) | refine zAl (fun _ => ?_) | refine zBx (fun _ => ?_))
          first | refine zR ?_ | refine zQ ?_
          rw [kr, he (by omega), kb]; rfl
        · have k3 := k3 (by rw [e1, e2, e3]; rfl) (of_decide_eq_true e3)
          repeat (first | refine gG ?_ | refine zN1 (fun hlen => ?_) | refine zN2 (fun hlen => ?_) | refine zAl (fun _ => ?_) | refine zBx (fun _ => ?_))
          refine zCall (hz3) ?_
          rintro _ rfl
          repeat (first | refine gG ?_ | refine zN1 (fun hlen => ?_) | refine zN2 (fun hlen => ?_) | refine zAl (fun _ => ?_) | refine zBx (fun _ => ?_))
          exact ⟨k + 1, ⟨hk', hsn (by omega)⟩, by omega, x_wkd 0 ⟨rfl, trivial⟩ rfl (by repeat (first | exact ag_refl | refine ag_upd rfl ?_ | refine ag_at rfl rfl ?_))⟩
    · have hk' : k = l.length := by have : ¬ k < l.length := by simpa using h
                                    omega
      subst hk'
      rw [List.take_length] at hz
      rw [errs_all Inp.check hz] at kr
      repeat (first | refine gG ?_ | refine zN1 (fun hlen => ?_) | refine zN2 (fun hlen => ?_) | refine zAl (fun _ => ?_) | refine zBx (fun _ => ?_))
      first | refine zR ?_ | refine zQ ?_
      rw [kr]; rfl
theorem flat_take_le {α : Type} (f : α → List UInt8) (l : List α) (k : Nat) : ((l.take k).flatMap f).length ≤ (l.flatMap f).length := by
  have := congrArg (fun r => (List.flatMap f r).length) (List.take_append_drop k l)
  simp only [List.flatMap_append, List.length_append] at this
  omega
set_option maxRecDepth 100000 in
set_option maxHeartbeats 4000000 in
theorem savedText_af (s : Sav) (hst : ∀ v ∈ s.state, v.ok) (hin : ∀ x ∈ s.inputs, x.val.ok ∧ x.kind ≤ 3) (h1 : s.state.length ≤ 6) (h2 : s.inputs.length ≤ 2000) (hb : s.bytes.length ≤ 1099511627776) : AF Try.prog 99 [s.t] (· = .lit (.string (bs s.bytes))) := by
  obtain ⟨ac, st, l⟩ := s
  dsimp only at hst hin h1 h2
  have e0 : (Sav.mk ac st l).bytes = uv ac.size ++ (ac.data.toList ++ (uv st.length ++ (st.flatMap V.bytes ++ (uv l.length ++ l.flatMap Inp.bytes)))) := rfl
  rw [e0] at hb ⊢
  simp only [List.length_append, sz_len] at hb
  have c1 := rnat_af ac.size (by omega)
  have c2 := rnat_af st.length (by omega)
  have c3 := rnat_af l.length (by omega)
  have w1 : IntKind.u64.wrap (ac.size : Int) = (ac.size : Int) := by rw [wrap_u64]; omega
  have w2 : IntKind.u64.wrap (st.length : Int) = (st.length : Int) := by rw [wrap_u64]; omega
  have w3 : IntKind.u64.wrap (l.length : Int) = (l.length : Int) := by rw [wrap_u64]; omega
  refine af_enter tok Try.func99 Try.ntmps99 Try.results99 rfl (by kernel_rfl) rfl rfl fun F hX => ?_
  repeat (first | refine gG ?_ | refine zN1 (fun hlen => ?_) | refine zN2 (fun hlen => ?_) | refine zAl (fun _ => ?_) | refine zBf ?_)
  refine ac_draw [1, 1, 1, 1, 1, 1, 1, 1, 1, 1, 1, 1, 1, 1, 1] [0, 1, 2, 3, 4, 5, 6, 7, 8, 9, 10, 11, 12, 13, 14] (by kernel_rfl) (by kernel_rfl) ?_
  refine gW ?_
  apply w_q; (focus exact rfl); (focus exact rfl); focus (intro _; (refine lo_conv tok rfl rfl rfl rfl w1 ?_); exact det_refl)
  apply w_q; (focus exact rfl); (focus exact rfl); focus (intro _; (refine lo_call c1 rfl (by repeat (first | exact rzs_nil | apply rzs_cons | exact rz_c | exact rz_nil rfl | apply rz_agg | exact rz_own rfl | apply rz_fn | exact rz_ptr rfl | apply rz_tup)) ?_; rintro _ rfl); exact det_refl)
  refine gW ?_
  apply w_q; (focus exact rfl); (focus exact rfl); focus (intro _; (refine zCatb (uv ac.size) ac.data.toList (by simp only [List.length_append, List.length_cons, List.length_nil, sz_len]; omega) ?_); exact det_refl)
  refine gW ?_
  apply w_q; (focus exact rfl); (focus exact rfl); focus (intro _; (refine lo_conv tok rfl rfl rfl rfl w2 ?_); exact det_refl)
  apply w_q; (focus exact rfl); (focus exact rfl); focus (intro _; (refine lo_call c2 rfl (by repeat (first | exact rzs_nil | apply rzs_cons | exact rz_c | exact rz_nil rfl | apply rz_agg | exact rz_own rfl | apply rz_fn | exact rz_ptr rfl | apply rz_tup)) ?_; rintro _ rfl); exact det_refl)
  apply w_q; (focus exact rfl); (focus exact rfl); focus (intro _; (refine zCatb (uv ac.size ++ ac.data.toList) (uv st.length) (by simp only [List.length_append, List.length_cons, List.length_nil, sz_len]; omega) ?_); exact det_refl)
  refine gW ?_
  refine w_nil ?_
  repeat (first | refine gG ?_ | refine zN1 (fun hlen => ?_) | refine zN2 (fun hlen => ?_) | refine zAl (fun _ => ?_) | refine zBx (fun _ => ?_))
  refine x_loop [3, 5, 25, 26, 27, 28, 29, 30, 31, 32, 33] (fun y : Nat => [(25, .c (.lit (.int .i64 (y : Nat)))), (3, .c (.lit (.string (bs (uv ac.size ++ ac.data.toList ++ uv st.length ++ (st.take y).flatMap V.bytes)))))]) (fun _ => []) (fun y => y ≤ st.length) (fun y => st.length - y) 0 (Nat.zero_le _) ⟨rfl, by simp; rfl, trivial⟩ rfl ?_
  intro i hi
  repeat (first | refine gG ?_ | refine zN1 (fun hlen => ?_) | refine zN2 (fun hlen => ?_) | refine zAl (fun _ => ?_) | refine zBx (fun _ => ?_))
  refine x_cond rfl (fun h => ?_) (fun h => ?_)
  · have hi' : i < st.length := by simpa using h
    obtain ⟨a, hla⟩ := nth hi'
    have hsn := flat_snoc' V.bytes hla
    have hle := flat_take_le V.bytes st (i + 1)
    rw [hsn, List.length_append] at hle
    have hc := valueText_af a (hst a (List.mem_of_getElem? hla)) (by omega)
    repeat (first | refine gG ?_ | refine zN1 (fun hlen => ?_) | refine zN2 (fun hlen => ?_) | refine zAl (fun _ => ?_) | refine zBx (fun _ => ?_))
    refine zIx (i) (hi') ?_
    repeat (first | refine gG ?_ | refine zN1 (fun hlen => ?_) | refine zN2 (fun hlen => ?_) | refine zAl (fun _ => ?_) | refine zBx (fun _ => ?_))
    refine zEl (V.at hla) (V.ts_len a) ?_
    obtain ⟨ka, na, ta, la⟩ := a
    repeat (first | refine gG ?_ | refine zN1 (fun hlen => ?_) | refine zN2 (fun hlen => ?_) | refine zAl (fun _ => ?_) | refine zBx (fun _ => ?_))
    refine zCall (hc) ?_
    rintro _ rfl
    repeat (first | refine gG ?_ | refine zN1 (fun hlen => ?_) | refine zN2 (fun hlen => ?_) | refine zAl (fun _ => ?_) | refine zBx (fun _ => ?_))
    refine zCatb (uv ac.size ++ ac.data.toList ++ uv st.length ++ (st.take i).flatMap V.bytes) (V.mk ka na ta la).bytes (by simp only [List.length_append, List.length_cons, List.length_nil, sz_len]; omega) ?_
    repeat (first | refine gG ?_ | refine zN1 (fun hlen => ?_) | refine zN2 (fun hlen => ?_) | refine zAl (fun _ => ?_) | refine zBx (fun _ => ?_))
    exact ⟨i + 1, hi', by omega, x_wkd 0 ⟨rfl, by simp only [hsn, List.append_assoc]; rfl, trivial⟩ rfl (by repeat (first | exact ag_refl | refine ag_upd rfl ?_ | refine ag_at rfl rfl ?_))⟩
  · have hi' : i = st.length := by have : ¬ i < st.length := by simpa using h
                                   omega
    subst hi'
    rw [List.take_length]
    repeat (first | refine gG ?_ | refine zN1 (fun hlen => ?_) | refine zN2 (fun hlen => ?_) | refine zAl (fun _ => ?_) | refine zBx (fun _ => ?_))
    refine lo_conv tok rfl rfl rfl rfl w3 ?_
    repeat (first | refine gG ?_ | refine zN1 (fun hlen => ?_) | refine zN2 (fun hlen => ?_) | refine zAl (fun _ => ?_) | refine zBx (fun _ => ?_))
    refine zCall (c3) ?_
    rintro _ rfl
    repeat (first | refine gG ?_ | refine zN1 (fun hlen => ?_) | refine zN2 (fun hlen => ?_) | refine zAl (fun _ => ?_) | refine zBx (fun _ => ?_))
    refine zCatb (uv ac.size ++ ac.data.toList ++ uv st.length ++ st.flatMap V.bytes) (uv l.length) (by simp only [List.length_append, List.length_cons, List.length_nil, sz_len]; omega) ?_
    repeat (first | refine gG ?_ | refine zN1 (fun hlen => ?_) | refine zN2 (fun hlen => ?_) | refine zAl (fun _ => ?_) | refine zBx (fun _ => ?_))
    refine x_loop [3, 7, 44, 45, 46, 47, 48, 49, 50, 51, 52, 53, 54, 55, 56, 57, 58, 59, 60, 61, 62, 63] (fun y : Nat => [(44, .c (.lit (.int .i64 (y : Nat)))), (3, .c (.lit (.string (bs (uv ac.size ++ ac.data.toList ++ uv st.length ++ st.flatMap V.bytes ++ uv l.length ++ (l.take y).flatMap Inp.bytes)))))]) (fun _ => []) (fun y => y ≤ l.length) (fun y => l.length - y) 0 (Nat.zero_le _) ⟨rfl, by simp; rfl, trivial⟩ rfl ?_
    intro i hi
    repeat (first | refine gG ?_ | refine zN1 (fun hlen => ?_) | refine zN2 (fun hlen => ?_) | refine zAl (fun _ => ?_) | refine zBx (fun _ => ?_))
    refine x_cond rfl (fun h => ?_) (fun h => ?_)
    · have hi' : i < l.length := by simpa using h
      obtain ⟨a, hla⟩ := nth hi'
      have hsn := flat_snoc' Inp.bytes hla
      have hle := flat_take_le Inp.bytes l (i + 1)
      rw [hsn, List.length_append] at hle
      have hok := hin a (List.mem_of_getElem? hla)
      repeat (first | refine gG ?_ | refine zN1 (fun hlen => ?_) | refine zN2 (fun hlen => ?_) | refine zAl (fun _ => ?_) | refine zBx (fun _ => ?_))
      refine zIx (i) (hi') ?_
      repeat (first | refine gG ?_ | refine zN1 (fun hlen => ?_) | refine zN2 (fun hlen => ?_) | refine zAl (fun _ => ?_) | refine zBx (fun _ => ?_))
      refine zEl (flat_at Inp.ts 5 Inp.ts_len hla) (Inp.ts_len a) ?_
      obtain ⟨kd, v⟩ := a
      by_cases hk : kd = 3
      · have d1 : decide (kd < 3) = false := decide_eq_false (by omega)
        have hbb : (Inp.mk kd v).bytes = [kb kd] := by simp only [Inp.bytes]; rw [if_pos hk]
        rw [hbb] at hsn hle
        simp only [List.length_cons, List.length_nil] at hle
        obtain ⟨ka, na, ta, la⟩ := v
        repeat (first | refine gX ?_ | refine zN1 (fun hlen => ?_) | refine zN2 (fun hlen => ?_) | refine zAl (fun _ => ?_) | refine zBx (fun _ => ?_))
        refine lo_conv tok rfl rfl rfl rfl rfl ?_
        repeat (first | refine gG ?_ | refine zN1 (fun hlen => ?_) | refine zN2 (fun hlen => ?_) | refine zAl (fun _ => ?_) | refine zBx (fun _ => ?_))
        refine zStr [kb kd] (one_kb kd) rfl ?_
        repeat (first | refine gG ?_ | refine zN1 (fun hlen => ?_) | refine zN2 (fun hlen => ?_) | refine zAl (fun _ => ?_) | refine zBx (fun _ => ?_))
        refine zCatb (uv ac.size ++ ac.data.toList ++ uv st.length ++ st.flatMap V.bytes ++ uv l.length ++ (l.take i).flatMap Inp.bytes) [kb kd] (by simp only [List.length_append, List.length_cons, List.length_nil, sz_len]; omega) ?_
        repeat (first | refine gG ?_ | refine zN1 (fun hlen => ?_) | refine zN2 (fun hlen => ?_) | refine zAl (fun _ => ?_) | refine zBx (fun _ => ?_))
        exact ⟨i + 1, hi', by omega, x_wkd 0 ⟨rfl, by simp only [hsn, List.append_assoc]; rfl, trivial⟩ rfl (by repeat (first | exact ag_refl | refine ag_upd rfl ?_ | refine ag_at rfl rfl ?_))⟩
      · have d1 : decide (kd < 3) = true := decide_eq_true (by have := hok.2; simp only at this; omega)
        have hbb : (Inp.mk kd v).bytes = kb kd :: v.bytes := by simp only [Inp.bytes]; rw [if_neg hk]
        rw [hbb] at hsn hle
        simp only [List.length_cons, List.length_nil] at hle
        have hc := valueText_af v hok.1 (by omega)
        generalize v.bytes = vb at *
        obtain ⟨ka, na, ta, la⟩ := v
        repeat (first | refine gX ?_ | refine zN1 (fun hlen => ?_) | refine zN2 (fun hlen => ?_) | refine zAl (fun _ => ?_) | refine zBx (fun _ => ?_))
        refine lo_conv tok rfl rfl rfl rfl rfl ?_
        repeat (first | refine gG ?_ | refine zN1 (fun hlen => ?_) | refine zN2 (fun hlen => ?_) | refine zAl (fun _ => ?_) | refine zBx (fun _ => ?_))
        refine zStr [kb kd] (one_kb kd) rfl ?_
        repeat (first | refine gG ?_ | refine zN1 (fun hlen => ?_) | refine zN2 (fun hlen => ?_) | refine zAl (fun _ => ?_) | refine zBx (fun _ => ?_))
        refine zCatb (uv ac.size ++ ac.data.toList ++ uv st.length ++ st.flatMap V.bytes ++ uv l.length ++ (l.take i).flatMap Inp.bytes) [kb kd] (by simp only [List.length_append, List.length_cons, List.length_nil, sz_len]; omega) ?_
        repeat (first | refine gG ?_ | refine zN1 (fun hlen => ?_) | refine zN2 (fun hlen => ?_) | refine zAl (fun _ => ?_) | refine zBx (fun _ => ?_))
        refine zCall (hc) ?_
        rintro _ rfl
        repeat (first | refine gG ?_ | refine zN1 (fun hlen => ?_) | refine zN2 (fun hlen => ?_) | refine zAl (fun _ => ?_) | refine zBx (fun _ => ?_))
        refine zCatb (uv ac.size ++ ac.data.toList ++ uv st.length ++ st.flatMap V.bytes ++ uv l.length ++ (l.take i).flatMap Inp.bytes ++ [kb kd]) vb (by simp only [List.length_append, List.length_cons, List.length_nil, sz_len]; omega) ?_
        repeat (first | refine gG ?_ | refine zN1 (fun hlen => ?_) | refine zN2 (fun hlen => ?_) | refine zAl (fun _ => ?_) | refine zBx (fun _ => ?_))
        exact ⟨i + 1, hi', by omega, x_wkd 0 ⟨rfl, by simp only [hsn, List.append_assoc, List.cons_append, List.nil_append]; rfl, trivial⟩ rfl (by repeat (first | exact ag_refl | refine ag_upd rfl ?_ | refine ag_at rfl rfl ?_))⟩
    · have hi' : i = l.length := by have : ¬ i < l.length := by simpa using h
                                    omega
      subst hi'
      rw [List.take_length]
      repeat (first | refine gG ?_ | refine zN1 (fun hlen => ?_) | refine zN2 (fun hlen => ?_) | refine zAl (fun _ => ?_) | refine zBx (fun _ => ?_))
      first | refine zR ?_ | refine zQ ?_
      simp only [List.append_assoc]; rfl
end Go.Proofs.Ythgackidonocpaa
namespace Go.Proofs.Ythgackidonocpaa
open Go.RowKit
theorem rInp_fair : Fair rInp := by
  have hv := rVal_fair 40
  refine ⟨fun s => ?_, fun s h => ?_, fun s => ?_, fun s => ?_⟩
  · unfold rInp
    split
    · exact rByte_len s
    · exact Nat.le_trans (hv.len _) (rByte_len s)
  · unfold rInp at h ⊢
    split
    · exact rByte_dep s
    · rename_i hc
      rw [if_neg hc] at h
      exact (hv.dep _ h).trans (rByte_dep s)
  · unfold rInp
    split
    · exact Nat.le_of_eq (rByte_dep s).symm
    · have := hv.up (rByte s).2; rw [rByte_dep] at this; exact this
  · unfold rInp
    split
    · rw [rByte_dep]; exact Nat.le_succ _
    · have := hv.top (rByte s).2; rw [rByte_dep] at this; exact this
set_option maxRecDepth 100000 in
set_option maxHeartbeats 4000000 in
theorem inputR_ag (b : Nat) (s : RS) (hd : s.dep ≤ 1000) (hl : s.l.length ≤ 1099511627776) : AG Try.prog 171 [.ptr 0 b 0] [rdB b s] (Gives b (.agg (rInp s).1.ts) (rInp s).2) := by
  unfold rInp
  have c1 := byte_ag b s
  have l1 := rByte_len s
  have p1 := rByte_dep s
  generalize rByte s = q1 at *
  obtain ⟨k, s1⟩ := q1
  dsimp only at c1 l1 p1 ⊢
  have c6 := valueR_ag b 40 s1 (by omega) (by omega) (by omega)
  generalize rVal 40 s1 = q6 at *
  obtain ⟨⟨kv, nv, tv, lv⟩, s6⟩ := q6
  dsimp only at c6 ⊢
  refine AG.re (R := fun r hs => Re r (.c (.agg (if k = 3 then (Inp.mk k V.zero, s1) else (Inp.mk k (.mk kv nv tv lv), s6)).1.ts)) ∧ hs = [rdB b (if k = 3 then (Inp.mk k V.zero, s1) else (Inp.mk k (.mk kv nv tv lv), s6)).2]) ?_ (fun r hs h => ⟨_, h.1, rfl, h.2⟩)
  refine ag_enter 1 tok Try.func171 Try.ntmps171 Try.results171 rfl (by kernel_rfl) rfl fun F => ?_
  cases d1 : decide ((k : Int) = 3)
  · have h1 : ¬ k = 3 := by have := of_decide_eq_false d1; omega
    rw [if_neg h1]
    repeat (first | refine gG ?_ | refine zAl (fun _ => ?_))
    refine zCallG [0] c1 ?_
    rintro _ _ ⟨rfl, rfl⟩
    refine ⟨_, _, re_refl, rfl, rfl, ?_⟩
    repeat (first | refine gG ?_ | refine zAl (fun _ => ?_))
    refine zCallG [0] c6 ?_
    rintro _ _ ⟨rfl, rfl⟩
    refine ⟨_, _, re_refl, rfl, rfl, ?_⟩
    repeat (first | refine gG ?_ | refine zAl (fun _ => ?_))
    refine zG ?_
    exact ⟨re_cls (by repeat (first | exact rzs_nil | apply rzs_cons | exact rz_c | exact rz_nil rfl | apply rz_agg | exact rz_own rfl | apply rz_fn | exact rz_ptr rfl | apply rz_tup)), rfl⟩
  · have h1 : k = 3 := by have := of_decide_eq_true d1; omega
    rw [if_pos h1]
    repeat (first | refine gG ?_ | refine zAl (fun _ => ?_))
    refine zCallG [0] c1 ?_
    rintro _ _ ⟨rfl, rfl⟩
    refine ⟨_, _, re_refl, rfl, rfl, ?_⟩
    repeat (first | refine gG ?_ | refine zAl (fun _ => ?_))
    refine zG ?_
    exact ⟨re_cls (by repeat (first | exact rzs_nil | apply rzs_cons | exact rz_c | exact rz_nil rfl | apply rz_agg | exact rz_own rfl | apply rz_fn | exact rz_ptr rfl | apply rz_tup)), rfl⟩
set_option maxRecDepth 100000 in
set_option maxHeartbeats 2000000 in
theorem someI_ag (b D : Nat) (g : RS → Inp × RS) (hfg : Fair g) (f : FuncId) (hg : ∀ s : RS, s.dep = D → s.l.length ≤ 1099511627776 → AG Try.prog f [.ptr 0 b 0] [rdB b s] (Gives b (.agg (Inp.ts (g s).1)) (g s).2))
    (s : RS) (hs : s.dep = D) (hl : s.l.length ≤ 1099511627776) :
    AG Try.prog 170 [.ptr 0 b 0, .own 0 (bfn f b 0)] [rdB b s] (Gives b (inpRow (rSome g s).1) (rSome g s).2) := by
  have hc := countR_ag b s
  have hcl := rCount_len s
  have hcn := rCount_le s
  have hcd := rCount_dep s
  unfold rSome
  generalize rCount s = p at *
  obtain ⟨n0, s0⟩ := p
  dsimp only at hc hcl hcn hcd ⊢
  refine ag_enter 1 tok Try.func170 Try.ntmps170 Try.results170 rfl (by kernel_rfl) rfl fun F => ?_
  repeat (first | refine gG ?_ | refine zAp (fun _ => ?_))
  refine zCallG [0] hc ?_
  rintro _ _ ⟨rfl, rfl⟩
  refine ⟨_, _, re_refl, rfl, rfl, ?_⟩
  repeat (first | refine gG ?_ | refine zAp (fun _ => ?_))
  refine x_own 5 163 5 rfl rfl rfl rfl rfl ?_
  refine x_loop [5, 6, 9, 10, 11, 12, 13, 14, 15, 16, 17, 18, 19, 20, 21, 22, 23, 24] (fun y : Nat × List Inp × Value × RS => [(6, .c (.lit (.int .i64 (y.1 : Int)))), (5, .own 1 y.2.2.1)]) (fun y => [rdB b y.2.2.2, .row y.2.2.1 163 5 y.2.1.length (y.2.1.flatMap Inp.ts)])
    (fun y => (y.2.2.2.bad = false → y.2.2.2.dep = D) ∧ (y.2.1 ++ (rLoop g y.1 y.2.2.2).1, (rLoop g y.1 y.2.2.2).2) = rLoop g n0 s0 ∧ y.2.1.length + y.1 ≤ 1099511627776 ∧ y.2.2.2.l.length ≤ 1099511627776) (fun y => y.1) (n0, [], .slice none 0 0, s0) ⟨fun _ => hcd.trans hs, by simp, by simp only [List.length_nil]; omega, by simp only; omega⟩ ⟨rfl, rfl, trivial⟩ rfl ?_
  rintro ⟨n, out, v, s'⟩ ⟨hd, hinv, hlen, hsl⟩
  dsimp only at hd hinv hlen hsl ⊢
  cases n with
  | zero =>
    have d1 : decide ((0 : Int) < ((0 : Nat) : Int)) = false := rfl
    simp only [rLoop, List.append_nil] at hinv
    refine x_fz 5 rfl rfl rfl rfl ?_
    repeat (first | refine gG ?_ | refine zAp (fun _ => ?_))
    refine zG ?_
    rw [← hinv]
    exact ⟨rfl, rfl⟩
  | succ n =>
    have d1 : decide ((0 : Int) < ((n + 1 : Nat) : Int)) = true := decide_eq_true (by omega)
    obtain ⟨l1, bad1, dp1⟩ := s'
    cases bad1
    · have hdd := hd rfl
      have hca := hg ⟨l1, false, dp1⟩ hdd hsl
      have hgl := hfg.len ⟨l1, false, dp1⟩
      have hgd := hfg.dep ⟨l1, false, dp1⟩
      simp only [rLoop, Bool.false_eq_true, if_false] at hinv
      dsimp only at hdd hgl hgd
      generalize g ⟨l1, false, dp1⟩ = q at *
      obtain ⟨⟨kd, ⟨kv, nv, tv, lv⟩⟩, s2⟩ := q
      dsimp only at hinv hca hgl hgd
      repeat (first | refine gG ?_ | refine zAp (fun _ => ?_))
      refine zCallGb [0] hca ?_
      rintro _ _ ⟨rfl, rfl⟩
      refine ⟨_, _, re_refl, rfl, rfl, ?_⟩
      repeat (first | refine gG ?_ | refine zAp (fun _ => ?_))
      refine lo_sub rfl rfl (r := (n : Int)) (by rw [IntWalk.i64_in _ (by omega)]; omega) ?_
      repeat (first | refine gG ?_ | refine zAp (fun _ => ?_))
      exact ⟨(n, out ++ [⟨kd, ⟨kv, nv, tv, lv⟩⟩], _, s2), ⟨fun h => (hgd h).trans hdd, by simpa using hinv, by simp only [List.length_append, List.length_cons, List.length_nil]; omega, by simp only at hsl ⊢; omega⟩, by simp only; omega, x_wkd 2 ⟨rfl, rfl, trivial⟩ (by simp only [List.flatMap_append, List.flatMap_cons, List.flatMap_nil, List.append_nil, List.length_append, List.length_cons, List.length_nil]; rfl) (by repeat (first | exact ag_refl | refine ag_upd rfl ?_ | refine ag_at rfl rfl ?_))⟩
    · simp only [rLoop, if_true, List.append_nil] at hinv
      refine x_fz 5 rfl rfl rfl rfl ?_
      repeat (first | refine gG ?_ | refine zAp (fun _ => ?_))
      refine zG ?_
      rw [← hinv]
      exact ⟨rfl, rfl⟩
set_option maxRecDepth 100000 in
set_option maxHeartbeats 4000000 in
theorem savedR_ag (b : Nat) (s : RS) (hd : s.dep ≤ 900) (hl : s.l.length ≤ 1099511627776) : AG Try.prog 92 [.ptr 0 b 0] [rdB b s] (Gives b (rSav s).1.t (rSav s).2) := by
  unfold rSav
  have c1 := textR_ag b s
  have l1 := rText_len s
  have p1 := rText_dep s
  generalize rText s = q1 at *
  obtain ⟨t, s1⟩ := q1
  dsimp only at c1 l1 p1 ⊢
  have c2 := someV_ag b s1.dep (rVal 40) (rVal_fair 40) 80 (fun s' h' hl' => valueR_ag b 40 s' (by omega) (by omega) hl') s1 rfl (by omega)
  have l2 := (rSome_fair (rVal_fair 40)).len s1
  have p2 := (rSome_fair (rVal_fair 40)).top s1
  generalize rSome (rVal 40) s1 = q2 at *
  obtain ⟨a, s2⟩ := q2
  dsimp only at c2 l2 p2 ⊢
  have c3 := someI_ag b s2.dep rInp rInp_fair 171 (fun s' h' hl' => inputR_ag b s' (by omega) hl') s2 rfl (by omega)
  generalize rSome rInp s2 = q3 at *
  obtain ⟨ip, s3⟩ := q3
  dsimp only at c3 ⊢
  refine AG.re (R := fun r hs => Re r (.c (Sav.mk (bs t) a ip).t) ∧ hs = [rdB b s3]) ?_ (fun r hs h => ⟨_, h.1, rfl, h.2⟩)
  refine ag_enter 1 tok Try.func92 Try.ntmps92 Try.results92 rfl (by kernel_rfl) rfl fun F => ?_
  repeat (first | refine gG ?_ | refine zAl (fun _ => ?_))
  refine ac_draw [0, 0, 0, 2, 0, 0, 0, 0, 0, 2, 0, 0, 0, 0, 0, 2, 0, 2] [0, 1, 2, 4, 5, 6, 7, 8, 10, 11, 12, 13, 14, 3, 9, 15, 16, 17] (by kernel_rfl) (by kernel_rfl) ?_
  refine gW ?_
  apply w_p; (focus exact rfl); (focus exact rfl); focus (intro _; (refine zMf ?_); exact det_refl)
  refine gW ?_
  apply w_p; (focus exact rfl); (focus exact rfl); focus (intro _; (refine zMf ?_); exact det_refl)
  apply w_l; (focus exact rfl); (focus exact rfl); (refine zCallG [0] c1 ?_; rintro _ _ ⟨rfl, rfl⟩; refine ⟨_, _, re_refl, rfl, rfl, ?_⟩)
  apply w_l; (focus exact rfl); (focus exact rfl); (refine zCallG [0] c2 ?_; rintro _ _ ⟨rfl, rfl⟩; refine ⟨_, _, re_refl, rfl, rfl, ?_⟩)
  apply w_l; (focus exact rfl); (focus exact rfl); (refine zCallG [0] c3 ?_; rintro _ _ ⟨rfl, rfl⟩; refine ⟨_, _, re_refl, rfl, rfl, ?_⟩)
  refine gW ?_
  apply w_l; (focus exact rfl); (focus exact rfl); (first | (refine zkL ?_; first | refine zL1 ?_ | refine zL2 ?_ | refine zL3 ?_ | refine zLp ?_) | refine zM ?_ | (refine zkF ?_; first | refine zF1 ?_ | refine zF2 ?_ | refine zF3 ?_) | refine zA ?_ | (refine zkB ?_; first | refine zC5 ?_ | refine zC6 ?_ | refine zC1 ?_ | refine zC2 ?_ | refine zC3 ?_ | refine zC4 ?_ | refine zS5 ?_ | refine zS6 ?_ | refine zS1 ?_ | refine zS2 ?_ | refine zS3 ?_ | refine zS4 ?_ | refine zInc ?_ | refine zQ1 ?_ | refine zQ2 ?_ | refine zQ3 ?_ | refine zQ4 ?_ | refine zQ5 ?_ | refine zQ6 ?_) | (refine zkI ?_; first | refine zN1 (fun hlen => ?_) | refine zN2 (fun hlen => ?_) | refine zN3 ?_ | refine zN4 ?_ | refine zAp (fun _ => ?_)) | refine zS ?_ | refine zAl (fun _ => ?_) | refine zBx (fun _ => ?_) | refine zPt ?_ | refine zPf ?_ | refine zE ?_ | refine zEA ?_ | refine zNot ?_ | refine zBd ?_ | refine zBs ?_ | refine zFn ?_ | refine zK1 ?_ | refine zK2 ?_)
  refine w_nil ?_
  repeat (first | refine gG ?_ | refine zAl (fun _ => ?_))
  refine zG ?_
  exact ⟨re_cls (by repeat (first | exact rzs_nil | apply rzs_cons | exact rz_c | exact rz_nil rfl | apply rz_agg | exact rz_own rfl | apply rz_fn | exact rz_ptr rfl | apply rz_tup)), rfl⟩
end Go.Proofs.Ythgackidonocpaa
namespace Go.Proofs.Ythgackidonocpaa
open Go.RowKit
theorem tInp_eq (s : TS) : tInp s = if (tOne s).1 = 3 then (⟨(tOne s).1, V.zero⟩, (tOne s).2) else (⟨(tOne s).1, (tWhole (tOne s).2).1⟩, (tWhole (tOne s).2).2) := rfl
theorem tRep_stop {α : Type} {g : TS → α × TS} {n : Nat} {s : TS} (h : (decide ((0 : Int) < (n : Int)) && s.ok) = false) : tRep g n s = ([], s) := by
  cases n with
  | zero => rfl
  | succ n =>
    have : s.ok = false := by simpa [decide_eq_true (show (0 : Int) < ((n + 1 : Nat) : Int) by omega)] using h
    rw [tRep, if_neg (by rw [this]; decide)]
theorem tRep_go {α : Type} {g : TS → α × TS} {n : Nat} {s : TS} (h : (decide ((0 : Int) < (n : Int)) && s.ok) = true) : ∃ m, n = m + 1 ∧ s.ok = true ∧ tRep g n s = ((g s).1 :: (tRep g m (g s).2).1, (tRep g m (g s).2).2) := by
  cases n with
  | zero => simp at h
  | succ n =>
    have hs : s.ok = true := by rw [Bool.and_eq_true] at h; exact h.2
    exact ⟨n, rfl, hs, by rw [tRep, if_pos hs]⟩
set_option maxRecDepth 100000 in
set_option maxHeartbeats 4000000 in
theorem savedT_ag (b : Nat) (s : TS) (hl : s.l.length ≤ 2097152) : AG Try.prog 93 [.ptr 0 b 0] [tkB b s] (Takes b (tSav s).1.t (tSav s).2) := by
  unfold tSav
  have c1 := ttext_ag b s
  have g1 := (tText_et s).1
  generalize tText s = q1 at *
  obtain ⟨t, s1⟩ := q1
  dsimp only at c1 g1 ⊢
  unfold tVals
  have c2 := tnat_ag b s1
  have n2 := tNat_lt s1
  have g2 := (tNat_et s1).1
  generalize tNat s1 = q2 at *
  obtain ⟨m2, s2⟩ := q2
  dsimp only at c2 n2 g2 ⊢
  have g3 := (tRep_dn tWhole_et m2 s2).1.1
  generalize hq3 : tRep tWhole m2 s2 = q3 at *
  obtain ⟨vs, s3⟩ := q3
  dsimp only at g3 ⊢
  unfold tInps
  have c4 := tnat_ag b s3
  have n4 := tNat_lt s3
  have g4 := (tNat_et s3).1
  generalize tNat s3 = q4 at *
  obtain ⟨m4, s4⟩ := q4
  dsimp only at c4 n4 g4 ⊢
  generalize hq5 : tRep tInp m4 s4 = q5 at *
  obtain ⟨is, s5⟩ := q5
  dsimp only
  refine AG.re (R := fun r hs => Re r (.c (Sav.mk (bs t) vs is).t) ∧ hs = [tkB b s5]) ?_ (fun r hs h => ⟨_, h.1, rfl, h.2⟩)
  refine ag_enter 1 tok Try.func93 Try.ntmps93 Try.results93 rfl (by kernel_rfl) rfl fun F => ?_
  repeat (first | refine gG ?_ | refine zAl (fun _ => ?_) | refine zAp (fun _ => ?_))
  refine zCallG [0] c1 ?_
  rintro _ _ ⟨rfl, rfl⟩
  refine ⟨_, _, re_refl, rfl, rfl, ?_⟩
  repeat (first | refine gG ?_ | refine zAl (fun _ => ?_) | refine zAp (fun _ => ?_))
  refine zCallG [0] c2 ?_
  rintro _ _ ⟨rfl, rfl⟩
  refine ⟨_, _, re_refl, rfl, rfl, ?_⟩
  repeat (first | refine gG ?_ | refine zAl (fun _ => ?_) | refine zAp (fun _ => ?_))
  rename_i b2 b3
  refine x_own_cell 2 1 24 4 rfl rfl rfl rfl rfl rfl ?_
  refine x_loop [4, 12, 13, 14, 15, 16, 17, 18, 19, 20, 21, 22, 23, 24, 25, 26, 27, 28] (fun y : Nat × List V × Value × TS => [(4, .c (.lit (.int .i64 (y.1 : Int))))]) (fun y => [tkB b y.2.2.2, .box b2 47 [.c (.lit (.string ⟨#[]⟩)), .c (.lit (.slice none 0 0)), .c (.lit (.slice none 0 0))], .box b3 47 [.c (.lit (.string (bs t))), .own 3 y.2.2.1, .c (.lit (.slice none 0 0))], .row y.2.2.1 24 4 y.2.1.length (V.all y.2.1)])
    (fun y => y.1 ≤ 9223372036854775807 ∧ (y.2.2.2.ok = true → y.2.1.length + y.2.2.2.l.length ≤ 2097152) ∧ (y.2.1 ++ (tRep tWhole y.1 y.2.2.2).1, (tRep tWhole y.1 y.2.2.2).2) = (vs, s3)) (fun y => y.1) (m2, [], .slice none 0 0, s2) ⟨n2, fun _ => by simp only [List.length_nil]; omega, by simp only [List.nil_append, hq3]⟩ ⟨rfl, trivial⟩ rfl ?_
  rintro ⟨j, out, v, s'⟩ ⟨h1, h2, hinv⟩
  dsimp only at h1 h2 hinv ⊢
  refine ac_seq ?_
  refine ac_seq ?_
  refine x_join [12, 13, 14, 15, 16, 17, 18, 19] (fun y : {c : Bool // c = (decide ((0 : Int) < (j : Int)) && s'.ok)} => [(19, .c (.lit (.bool y.1)))]) (fun _ => [tkB b s', .box b2 47 [.c (.lit (.string ⟨#[]⟩)), .c (.lit (.slice none 0 0)), .c (.lit (.slice none 0 0))], .box b3 47 [.c (.lit (.string (bs t))), .own 3 v, .c (.lit (.slice none 0 0))], .row v 24 4 out.length (V.all out)]) ?_ ?_
  rotate_left
  · cases d1 : decide ((0 : Int) < (j : Int))
    · refine ac_region ?_
      repeat (first | refine gO ?_ | refine zAl (fun _ => ?_) | refine zAp (fun _ => ?_))
      exact ⟨⟨false, by simp⟩, x_wkd 4 ⟨rfl, trivial⟩ rfl (by repeat (first | exact ag_refl | refine ag_upd rfl ?_ | refine ag_at rfl rfl ?_))⟩
    · refine ac_region ?_
      repeat (first | refine gO ?_ | refine zAl (fun _ => ?_) | refine zAp (fun _ => ?_))
      exact ⟨⟨s'.ok, by simp⟩, x_wkd 4 ⟨rfl, trivial⟩ rfl (by repeat (first | exact ag_refl | refine ag_upd rfl ?_ | refine ag_at rfl rfl ?_))⟩
  rintro ⟨c, hc⟩
  dsimp only
  cases c
  rotate_left
  · obtain ⟨j', rfl, hok, hrep⟩ := tRep_go (g := tWhole) hc.symm
    have hb := h2 hok
    have hca := whole_ag b s'
    have he := tWhole_et s'
    rw [hrep] at hinv
    generalize tWhole s' = q at *
    obtain ⟨⟨kv, nv, tv, lv⟩, s2'⟩ := q
    dsimp only at hinv hca he
    repeat (first | refine gG ?_ | refine zAl (fun _ => ?_) | refine zAp (fun _ => ?_))
    refine ac_drawT [0, 2, 0, 2, 0, 2, 0, 2] (.fork [0, 2] 1 (.fin [3, 4, 5, 6, 7]) 3 (.fin [4, 1, 5, 6, 7])) (by kernel_rfl) (by kernel_rfl) ?_
    refine wt_fork ?_
    refine gW ?_
    refine w_nil ?_
    refine ⟨?_, ?_⟩
    · apply w_l; (focus exact rfl); (focus exact rfl); (first | refine zL1 ?_ | refine zL2 ?_ | refine zL3 ?_ | refine zLp ?_)
      refine w_nil ?_
      refine wt_fin ?_
      apply w_l; (focus exact rfl); (focus exact rfl); (refine zCallG [0] hca ?_; rintro _ _ ⟨rfl, rfl⟩; refine ⟨_, _, re_refl, rfl, rfl, ?_⟩)
      refine gW ?_
      apply w_l; (focus exact rfl); (focus exact rfl); (first | (refine zkL ?_; first | refine zL1 ?_ | refine zL2 ?_ | refine zL3 ?_ | refine zLp ?_) | refine zM ?_ | (refine zkF ?_; first | refine zF1 ?_ | refine zF2 ?_ | refine zF3 ?_) | refine zA ?_ | (refine zkB ?_; first | refine zC5 ?_ | refine zC6 ?_ | refine zC1 ?_ | refine zC2 ?_ | refine zC3 ?_ | refine zC4 ?_ | refine zS5 ?_ | refine zS6 ?_ | refine zS1 ?_ | refine zS2 ?_ | refine zS3 ?_ | refine zS4 ?_ | refine zInc ?_ | refine zQ1 ?_ | refine zQ2 ?_ | refine zQ3 ?_ | refine zQ4 ?_ | refine zQ5 ?_ | refine zQ6 ?_) | (refine zkI ?_; first | refine zN1 (fun hlen => ?_) | refine zN2 (fun hlen => ?_) | refine zN3 ?_ | refine zN4 ?_ | refine zAp (fun _ => ?_)) | refine zS ?_ | refine zAl (fun _ => ?_) | refine zBx (fun _ => ?_) | refine zPt ?_ | refine zPf ?_ | refine zE ?_ | refine zEA ?_ | refine zNot ?_ | refine zBd ?_ | refine zBs ?_ | refine zFn ?_ | refine zK1 ?_ | refine zK2 ?_)
      refine gW ?_
      apply w_l; (focus exact rfl); (focus exact rfl); (first | (refine zkL ?_; first | refine zL1 ?_ | refine zL2 ?_ | refine zL3 ?_ | refine zLp ?_) | refine zM ?_ | (refine zkF ?_; first | refine zF1 ?_ | refine zF2 ?_ | refine zF3 ?_) | refine zA ?_ | (refine zkB ?_; first | refine zC5 ?_ | refine zC6 ?_ | refine zC1 ?_ | refine zC2 ?_ | refine zC3 ?_ | refine zC4 ?_ | refine zS5 ?_ | refine zS6 ?_ | refine zS1 ?_ | refine zS2 ?_ | refine zS3 ?_ | refine zS4 ?_ | refine zInc ?_ | refine zQ1 ?_ | refine zQ2 ?_ | refine zQ3 ?_ | refine zQ4 ?_ | refine zQ5 ?_ | refine zQ6 ?_) | (refine zkI ?_; first | refine zN1 (fun hlen => ?_) | refine zN2 (fun hlen => ?_) | refine zN3 ?_ | refine zN4 ?_ | refine zAp (fun _ => ?_)) | refine zS ?_ | refine zAl (fun _ => ?_) | refine zBx (fun _ => ?_) | refine zPt ?_ | refine zPf ?_ | refine zE ?_ | refine zEA ?_ | refine zNot ?_ | refine zBd ?_ | refine zBs ?_ | refine zFn ?_ | refine zK1 ?_ | refine zK2 ?_)
      refine w_nil ?_
      repeat (first | refine gG ?_ | refine zAl (fun _ => ?_) | refine zAp (fun _ => ?_))
      refine lo_sub rfl rfl (r := (j' : Int)) (by rw [IntWalk.i64_in _ (by omega)]; omega) ?_
      repeat (first | refine gG ?_ | refine zAl (fun _ => ?_) | refine zAp (fun _ => ?_))
      exact ⟨(j', out ++ [.mk kv nv tv lv], _, s2'), ⟨by simp only; omega, fun ho => by have := (he.2 ho).2; simp only [List.length_append, List.length_cons, List.length_nil]; omega, by simpa using hinv⟩, by simp only; omega, x_wkd 4 ⟨rfl, trivial⟩ (by simp only [V.all_app, V.all_one, List.length_append, List.length_cons, List.length_nil]; rfl) (by repeat (first | exact ag_refl | refine ag_upd rfl ?_ | refine ag_at rfl rfl ?_))⟩
    · apply w_l; (focus exact rfl); (focus exact rfl); (refine zCallG [0] hca ?_; rintro _ _ ⟨rfl, rfl⟩; refine ⟨_, _, re_refl, rfl, rfl, ?_⟩)
      refine w_nil ?_
      refine wt_fin ?_
      refine gW ?_
      apply w_l; (focus exact rfl); (focus exact rfl); (first | refine zL1 ?_ | refine zL2 ?_ | refine zL3 ?_ | refine zLp ?_)
      apply w_l; (focus exact rfl); (focus exact rfl); (first | (refine zkL ?_; first | refine zL1 ?_ | refine zL2 ?_ | refine zL3 ?_ | refine zLp ?_) | refine zM ?_ | (refine zkF ?_; first | refine zF1 ?_ | refine zF2 ?_ | refine zF3 ?_) | refine zA ?_ | (refine zkB ?_; first | refine zC5 ?_ | refine zC6 ?_ | refine zC1 ?_ | refine zC2 ?_ | refine zC3 ?_ | refine zC4 ?_ | refine zS5 ?_ | refine zS6 ?_ | refine zS1 ?_ | refine zS2 ?_ | refine zS3 ?_ | refine zS4 ?_ | refine zInc ?_ | refine zQ1 ?_ | refine zQ2 ?_ | refine zQ3 ?_ | refine zQ4 ?_ | refine zQ5 ?_ | refine zQ6 ?_) | (refine zkI ?_; first | refine zN1 (fun hlen => ?_) | refine zN2 (fun hlen => ?_) | refine zN3 ?_ | refine zN4 ?_ | refine zAp (fun _ => ?_)) | refine zS ?_ | refine zAl (fun _ => ?_) | refine zBx (fun _ => ?_) | refine zPt ?_ | refine zPf ?_ | refine zE ?_ | refine zEA ?_ | refine zNot ?_ | refine zBd ?_ | refine zBs ?_ | refine zFn ?_ | refine zK1 ?_ | refine zK2 ?_)
      refine gW ?_
      apply w_l; (focus exact rfl); (focus exact rfl); (first | (refine zkL ?_; first | refine zL1 ?_ | refine zL2 ?_ | refine zL3 ?_ | refine zLp ?_) | refine zM ?_ | (refine zkF ?_; first | refine zF1 ?_ | refine zF2 ?_ | refine zF3 ?_) | refine zA ?_ | (refine zkB ?_; first | refine zC5 ?_ | refine zC6 ?_ | refine zC1 ?_ | refine zC2 ?_ | refine zC3 ?_ | refine zC4 ?_ | refine zS5 ?_ | refine zS6 ?_ | refine zS1 ?_ | refine zS2 ?_ | refine zS3 ?_ | refine zS4 ?_ | refine zInc ?_ | refine zQ1 ?_ | refine zQ2 ?_ | refine zQ3 ?_ | refine zQ4 ?_ | refine zQ5 ?_ | refine zQ6 ?_) | (refine zkI ?_; first | refine zN1 (fun hlen => ?_) | refine zN2 (fun hlen => ?_) | refine zN3 ?_ | refine zN4 ?_ | refine zAp (fun _ => ?_)) | refine zS ?_ | refine zAl (fun _ => ?_) | refine zBx (fun _ => ?_) | refine zPt ?_ | refine zPf ?_ | refine zE ?_ | refine zEA ?_ | refine zNot ?_ | refine zBd ?_ | refine zBs ?_ | refine zFn ?_ | refine zK1 ?_ | refine zK2 ?_)
      refine w_nil ?_
      repeat (first | refine gG ?_ | refine zAl (fun _ => ?_) | refine zAp (fun _ => ?_))
      refine lo_sub rfl rfl (r := (j' : Int)) (by rw [IntWalk.i64_in _ (by omega)]; omega) ?_
      repeat (first | refine gG ?_ | refine zAl (fun _ => ?_) | refine zAp (fun _ => ?_))
      exact ⟨(j', out ++ [.mk kv nv tv lv], _, s2'), ⟨by simp only; omega, fun ho => by have := (he.2 ho).2; simp only [List.length_append, List.length_cons, List.length_nil]; omega, by simpa using hinv⟩, by simp only; omega, x_wkd 4 ⟨rfl, trivial⟩ (by simp only [V.all_app, V.all_one, List.length_append, List.length_cons, List.length_nil]; rfl) (by repeat (first | exact ag_refl | refine ag_upd rfl ?_ | refine ag_at rfl rfl ?_))⟩
  · rw [tRep_stop hc.symm] at hinv
    simp only [List.append_nil, Prod.mk.injEq] at hinv
    obtain ⟨rfl, rfl⟩ := hinv
    refine x_fzc 2 1 ?_
    repeat (first | refine gG ?_ | refine zAl (fun _ => ?_) | refine zAp (fun _ => ?_))
    refine zCallG [0] c4 ?_
    rintro _ _ ⟨rfl, rfl⟩
    refine ⟨_, _, re_refl, rfl, rfl, ?_⟩
    repeat (first | refine gG ?_ | refine zAl (fun _ => ?_) | refine zAp (fun _ => ?_))
    refine x_own_cell 2 2 163 5 rfl rfl rfl rfl rfl rfl ?_
    refine x_loop [5, 6, 31, 32, 33, 34, 35, 36, 37, 38, 39, 40, 41, 42, 43, 44, 45, 46, 47, 48, 49, 50, 51, 52, 53, 54, 55] (fun y : Nat × List Inp × Value × TS => [(5, .c (.lit (.int .i64 (y.1 : Int))))]) (fun y => [tkB b y.2.2.2, .box b2 47 [.c (.lit (.string ⟨#[]⟩)), .c (.lit (.slice none 0 0)), .c (.lit (.slice none 0 0))], .box b3 47 [.c (.lit (.string (bs t))), .c (.row out.length 4 (V.all out)), .own 4 y.2.2.1], .dead, .row y.2.2.1 163 5 y.2.1.length (y.2.1.flatMap Inp.ts)]) 
      (fun y => y.1 ≤ 9223372036854775807 ∧ (y.2.2.2.ok = true → y.2.1.length + y.2.2.2.l.length ≤ 2097152) ∧ (y.2.1 ++ (tRep tInp y.1 y.2.2.2).1, (tRep tInp y.1 y.2.2.2).2) = (is, s5)) (fun y => y.1) (m4, [], .slice none 0 0, s4) ⟨n4, fun _ => by simp only [List.length_nil]; omega, by simp only [List.nil_append, hq5]⟩ ⟨rfl, trivial⟩ rfl ?_
    clear hc h2 v h1
    rintro ⟨j, out', v, s'⟩ ⟨h1, h2, hinv⟩
    dsimp only at h1 h2 hinv ⊢
    refine ac_seq ?_
    refine ac_seq ?_
    refine x_join [31, 32, 33, 34, 35, 36, 37, 38] (fun y : {c : Bool // c = (decide ((0 : Int) < (j : Int)) && s'.ok)} => [(38, .c (.lit (.bool y.1)))]) (fun _ => [tkB b s', .box b2 47 [.c (.lit (.string ⟨#[]⟩)), .c (.lit (.slice none 0 0)), .c (.lit (.slice none 0 0))], .box b3 47 [.c (.lit (.string (bs t))), .c (.row out.length 4 (V.all out)), .own 4 v], .dead, .row v 163 5 out'.length (out'.flatMap Inp.ts)]) ?_ ?_
    rotate_left
    · cases d1 : decide ((0 : Int) < (j : Int))
      · refine ac_region ?_
        repeat (first | refine gO ?_ | refine zAl (fun _ => ?_) | refine zAp (fun _ => ?_))
        exact ⟨⟨false, by simp⟩, x_wkd 5 ⟨rfl, trivial⟩ rfl (by repeat (first | exact ag_refl | refine ag_upd rfl ?_ | refine ag_at rfl rfl ?_))⟩
      · refine ac_region ?_
        repeat (first | refine gO ?_ | refine zAl (fun _ => ?_) | refine zAp (fun _ => ?_))
        exact ⟨⟨s'.ok, by simp⟩, x_wkd 5 ⟨rfl, trivial⟩ rfl (by repeat (first | exact ag_refl | refine ag_upd rfl ?_ | refine ag_at rfl rfl ?_))⟩
    rintro ⟨c, hc⟩
    dsimp only
    cases c
    rotate_left
    · obtain ⟨j', rfl, hok, hrep⟩ := tRep_go (g := tInp) hc.symm
      have hb := h2 hok
      have he := tInp_et s'
      rw [hrep] at hinv
      rw [tInp_eq s'] at hinv he
      have hca := one_ag b s'
      generalize tOne s' = q at *
      obtain ⟨k, s2'⟩ := q
      dsimp only at hinv hca he
      have hcw := whole_ag b s2'
      generalize tWhole s2' = q at *
      obtain ⟨⟨kv, nv, tv, lv⟩, s3'⟩ := q
      dsimp only at hinv hcw he
      by_cases hk : k = 3
      · have d1 : decide ((k : Int) = 3) = true := decide_eq_true (by omega)
        rw [if_pos hk] at hinv he
        repeat (first | refine gG ?_ | refine zAl (fun _ => ?_) | refine zAp (fun _ => ?_))
        refine zCallG [0] hca ?_
        rintro _ _ ⟨rfl, rfl⟩
        refine ⟨_, _, re_refl, rfl, rfl, ?_⟩
        repeat (first | refine gO ?_ | refine zAl (fun _ => ?_) | refine zAp (fun _ => ?_))
        refine x_cells 5 [.lit (.int .i64 (k : Int)), .lit (.int .i64 0), .lit (.int .i64 0), .lit (.string ⟨#[]⟩), V.row []] ?_
        repeat (first | refine gG ?_ | refine zAl (fun _ => ?_) | refine zAp (fun _ => ?_))
        refine lo_sub rfl rfl (r := (j' : Int)) (by rw [IntWalk.i64_in _ (by omega)]; omega) ?_
        repeat (first | refine gG ?_ | refine zAl (fun _ => ?_) | refine zAp (fun _ => ?_))
        exact ⟨(j', out' ++ [⟨k, V.zero⟩], _, s2'), ⟨by simp only; omega, fun ho => by have := (he.2 ho).2; simp only [List.length_append, List.length_cons, List.length_nil] at this ⊢; omega, by simpa using hinv⟩, by simp only; omega, x_wkd 5 ⟨rfl, trivial⟩ (by simp only [List.flatMap_append, List.flatMap_cons, List.flatMap_nil, List.append_nil, List.length_append, List.length_cons, List.length_nil]; rfl) (by repeat (first | exact ag_refl | refine ag_upd rfl ?_ | refine ag_at rfl rfl ?_))⟩
      · have d1 : decide ((k : Int) = 3) = false := decide_eq_false (by omega)
        rw [if_neg hk] at hinv he
        repeat (first | refine gG ?_ | refine zAl (fun _ => ?_) | refine zAp (fun _ => ?_))
        refine zCallG [0] hca ?_
        rintro _ _ ⟨rfl, rfl⟩
        refine ⟨_, _, re_refl, rfl, rfl, ?_⟩
        repeat (first | refine gG ?_ | refine zAl (fun _ => ?_) | refine zAp (fun _ => ?_))
        refine zCallG [0] hcw ?_
        rintro _ _ ⟨rfl, rfl⟩
        refine ⟨_, _, re_refl, rfl, rfl, ?_⟩
        repeat (first | refine gG ?_ | refine zAl (fun _ => ?_) | refine zAp (fun _ => ?_))
        refine lo_sub rfl rfl (r := (j' : Int)) (by rw [IntWalk.i64_in _ (by omega)]; omega) ?_
        repeat (first | refine gG ?_ | refine zAl (fun _ => ?_) | refine zAp (fun _ => ?_))
        exact ⟨(j', out' ++ [⟨k, .mk kv nv tv lv⟩], _, s3'), ⟨by simp only; omega, fun ho => by have := (he.2 ho).2; simp only [List.length_append, List.length_cons, List.length_nil] at this ⊢; omega, by simpa using hinv⟩, by simp only; omega, x_wkd 5 ⟨rfl, trivial⟩ (by simp only [List.flatMap_append, List.flatMap_cons, List.flatMap_nil, List.append_nil, List.length_append, List.length_cons, List.length_nil]; rfl) (by repeat (first | exact ag_refl | refine ag_upd rfl ?_ | refine ag_at rfl rfl ?_))⟩
    · rw [tRep_stop hc.symm] at hinv
      simp only [List.append_nil, Prod.mk.injEq] at hinv
      obtain ⟨rfl, rfl⟩ := hinv
      refine x_fzc 2 2 ?_
      repeat (first | refine gG ?_ | refine zAl (fun _ => ?_) | refine zAp (fun _ => ?_))
      refine zG ?_
      exact ⟨re_cls (by repeat (first | exact rzs_nil | apply rzs_cons | exact rz_c | exact rz_nil rfl | apply rz_agg | exact rz_own rfl | apply rz_fn | exact rz_ptr rfl | apply rz_tup)), rfl⟩
end Go.Proofs.Ythgackidonocpaa
namespace Go.Proofs.Ythgackidonocpaa
open Go.RowKit
def intTs (i : Int) : List T := [.lit (.int .i64 i)]
def intRow (l : List Int) : T := .row l.length 1 (l.flatMap intTs)
def letRow (l : List Lt) : T := .row l.length 9 (l.flatMap Lt.ts)
structure Par where
  ref : Int
  sav : Sav
  box : List Lt
  ticks : Int
  wat : List Int
  lnk : List Int
def Par.ts (p : Par) : List T := [.lit (.int .i64 p.ref), .lit (.string p.sav.actor), V.row p.sav.state, inpRow p.sav.inputs, letRow p.box, .lit (.int .i64 p.ticks), intRow p.wat, intRow p.lnk]
def Par.t (p : Par) : T := .agg p.ts
theorem Par.ts_len (p : Par) : p.ts.length = 8 := rfl
def low1 (n : Int) : Bool := decide (n < 1)
def Par.check (p : Par) : Int :=
  if (decide (p.ref < 1) || decide (p.ticks < -1)) = true then 3
  else if (decide ((60 : Int) < (p.box.length : Int)) || decide ((1000 : Int) < (p.wat.length : Int)) || decide ((1000 : Int) < (p.lnk.length : Int))) = true then 2
  else if ¬ p.sav.check = 0 then p.sav.check
  else if ¬ errs (p.box.map Lt.check) = 0 then errs (p.box.map Lt.check)
  else if (p.wat.any low1 || p.lnk.any low1) = true then 3 else 0
def nb (n : Int) : List UInt8 := uv n.toNat
def Par.bytes (p : Par) : List UInt8 := uv p.ref.toNat ++ (p.sav.bytes ++ (uv p.box.length ++ (p.box.flatMap Lt.bytes ++ (uv (zz p.ticks) ++ (uv p.wat.length ++ (p.wat.flatMap nb ++ (uv p.lnk.length ++ p.lnk.flatMap nb)))))))
structure Par.Right (p : Par) : Prop where
  ref : 1 ≤ p.ref
  sav : p.sav.check = 0
  box : ∀ x ∈ p.box, x.check = 0
  boxes : p.box.length ≤ 60
  wat : ∀ n ∈ p.wat, 1 ≤ n
  lnk : ∀ n ∈ p.lnk, 1 ≤ n
  wats : p.wat.length ≤ 1000
  lnks : p.lnk.length ≤ 1000
theorem low_all {l : List Int} (h : l.any low1 = false) : ∀ n ∈ l, 1 ≤ n := by
  intro n hn
  rw [List.any_eq_false] at h
  have := h n hn
  simp only [low1, decide_eq_true_eq] at this
  omega
theorem Par.right {p : Par} (h : p.check = 0) : p.Right := by
  unfold Par.check at h
  split at h
  · omega
  · rename_i h1
    split at h
    · omega
    · rename_i h2
      split at h
      · rename_i h3; exact absurd h h3
      · rename_i h3
        split at h
        · rename_i h4; exact absurd h h4
        · rename_i h4
          split at h
          · omega
          · rename_i h5
            simp only [Bool.or_eq_true, decide_eq_true_eq, not_or] at h1 h2
            simp only [Bool.not_eq_true, Bool.or_eq_false_iff] at h5
            exact ⟨by omega, by omega, errs_zero Lt.check (by omega), by omega, low_all h5.1, low_all h5.2, by omega, by omega⟩
def rNatI (s : RS) : Int × RS := (((rNat s).1 : Int), (rNat s).2)
def rPar (s : RS) : Par × RS :=
  let p1 := rNat s
  let p2 := rSav p1.2
  let p3 := rSome rLet p2.2
  let p4 := rInt p3.2
  let p5 := rSome rNatI p4.2
  let p6 := rSome rNatI p5.2
  (⟨p1.1, p2.1, p3.1, p4.1, p5.1, p6.1⟩, p6.2)
theorem rNatI_ok : Reads rNatI nb fun n => 0 ≤ n ∧ inI n := by
  intro s x s' h hb
  unfold rNatI at h
  generalize e : rNat s = p at h
  obtain ⟨x1, s1⟩ := p
  simp only [Prod.mk.injEq] at h
  obtain ⟨rfl, rfl⟩ := h
  obtain ⟨g1, g2⟩ := rNat_ok e hb
  exact ⟨by simpa [nb] using g1, by simp only [inI]; omega⟩
theorem rNatI_to {n : Int} (h : 0 ≤ n) (hn : inI n) (r : List UInt8) : rNatI ⟨nb n ++ r, false, 0⟩ = (n, ⟨r, false, 0⟩) := by
  unfold inI at hn
  unfold rNatI nb
  rw [rNat_to n.toNat r 0 (by omega)]
  simp only [nat_int h]
def Par.fine (p : Par) : Prop := inI p.ref ∧ p.sav.fine ∧ (∀ x ∈ p.box, x.fine) ∧ inI p.ticks ∧ (∀ n ∈ p.wat, 0 ≤ n ∧ inI n) ∧ ∀ n ∈ p.lnk, 0 ≤ n ∧ inI n
theorem rPar_ok : Reads rPar Par.bytes Par.fine := by
  intro s x s' h hb
  unfold rPar at h
  dsimp only at h
  generalize e1 : rNat s = p1 at h
  obtain ⟨x1, s1⟩ := p1
  dsimp only at h
  generalize e2 : rSav s1 = p2 at h
  obtain ⟨x2, s2⟩ := p2
  dsimp only at h
  generalize e3 : rSome rLet s2 = p3 at h
  obtain ⟨x3, s3⟩ := p3
  dsimp only at h
  generalize e4 : rInt s3 = p4 at h
  obtain ⟨x4, s4⟩ := p4
  dsimp only at h
  generalize e5 : rSome rNatI s4 = p5 at h
  obtain ⟨x5, s5⟩ := p5
  dsimp only at h
  generalize e6 : rSome rNatI s5 = p6 at h
  obtain ⟨x6, s6⟩ := p6
  simp only [Prod.mk.injEq] at h
  obtain ⟨rfl, rfl⟩ := h
  obtain ⟨a1, a2, a3⟩ := rSome_ok rNatI_ok e6 hb
  obtain ⟨b1, b2, b3⟩ := rSome_ok rNatI_ok e5 (by rw [a1])
  obtain ⟨c1, c2⟩ := rInt_ok e4 (by rw [b1])
  obtain ⟨d1, d2, d3⟩ := rSome_ok rLet_ok e3 (by rw [c1])
  obtain ⟨f1, f2⟩ := rSav_ok _ _ _ e2 (by rw [d1])
  obtain ⟨g1, g2⟩ := rNat_ok e1 (by rw [f1])
  refine ⟨?_, by simp only [inI]; omega, f2, d2, c2, b2, a2⟩
  rw [g1, f1, d1, c1, b1, a1]
  simp only [Par.bytes, Int.toNat_natCast, List.append_assoc]
def Lt.ok (x : Lt) : Prop := match x with | .mk _ fm tt n _ v => inI fm ∧ inI tt ∧ inI n ∧ v.ok ∧ v.bytes.length ≤ 9223372036854775807
theorem rLet_to' {x : Lt} (h : x.check = 0) (hok : x.ok) (r : List UInt8) : rLet ⟨x.bytes ++ r, false, 0⟩ = (x, ⟨r, false, 0⟩) := by
  obtain ⟨k, fm, tt, n, t, v⟩ := x
  obtain ⟨h1, h2, h3, h4, h5⟩ := hok
  exact rLet_to (Lt.right h) h1 h2 h4 h5 r 0 rfl
theorem Lt.bytes_pos (x : Lt) : 1 ≤ x.bytes.length := by obtain ⟨k, fm, tt, n, t, v⟩ := x; simp [Lt.bytes]
theorem nb_pos (n : Int) : 1 ≤ (nb n).length := uv_len_pos _
structure Par.Ok (p : Par) : Prop where
  ref : inI p.ref
  ticks : inI p.ticks
  st : ∀ v ∈ p.sav.state, v.ok ∧ v.bytes.length ≤ 9223372036854775807
  inp : ∀ x ∈ p.sav.inputs, x.val.ok ∧ x.val.bytes.length ≤ 9223372036854775807
  box : ∀ x ∈ p.box, x.ok
  wat : ∀ n ∈ p.wat, inI n
  lnk : ∀ n ∈ p.lnk, inI n
theorem rPar_to {p : Par} (h : p.Right) (ho : p.Ok) (r : List UInt8) : rPar ⟨p.bytes ++ r, false, 0⟩ = (p, ⟨r, false, 0⟩) := by
  obtain ⟨rf, sv, bx, tk, wt, lk⟩ := p
  obtain ⟨a1, a2, a3, a4, a5, a6, a7, a8⟩ := h
  obtain ⟨b1, b2, b3, b4, b5, b6, b7⟩ := ho
  dsimp only at a1 a2 a3 a4 a5 a6 a7 a8 b1 b2 b3 b4 b5 b6 b7
  unfold inI at b1
  have h6 : rSome rNatI ⟨uv lk.length ++ (lk.flatMap nb ++ r), false, 0⟩ = (lk, ⟨r, false, 0⟩) :=
    rSome_to lk r 0 (by omega) (fun x _ => nb_pos x) fun x hx r => rNatI_to (by have := a6 x hx; omega) (b7 x hx) r
  have h5 : rSome rNatI ⟨uv wt.length ++ (wt.flatMap nb ++ (uv lk.length ++ (lk.flatMap nb ++ r))), false, 0⟩ = (wt, ⟨uv lk.length ++ (lk.flatMap nb ++ r), false, 0⟩) :=
    rSome_to wt _ 0 (by omega) (fun x _ => nb_pos x) fun x hx r => rNatI_to (by have := a5 x hx; omega) (b6 x hx) r
  have h3 : rSome rLet ⟨uv bx.length ++ (bx.flatMap Lt.bytes ++ (uv (zz tk) ++ (uv wt.length ++ (wt.flatMap nb ++ (uv lk.length ++ (lk.flatMap nb ++ r)))))), false, 0⟩ = (bx, ⟨uv (zz tk) ++ (uv wt.length ++ (wt.flatMap nb ++ (uv lk.length ++ (lk.flatMap nb ++ r)))), false, 0⟩) :=
    rSome_to bx _ 0 (by omega) (fun x _ => Lt.bytes_pos x) fun x hx r => rLet_to' (a3 x hx) (b5 x hx) r
  have e0 : (Par.mk rf sv bx tk wt lk).bytes ++ r = uv rf.toNat ++ (sv.bytes ++ (uv bx.length ++ (bx.flatMap Lt.bytes ++ (uv (zz tk) ++ (uv wt.length ++ (wt.flatMap nb ++ (uv lk.length ++ (lk.flatMap nb ++ r)))))))) := by
    simp only [Par.bytes, List.append_assoc]
  unfold rPar
  rw [e0, rNat_to rf.toNat _ 0 (by omega)]
  dsimp only
  rw [rSav_to (Sav.right a2) b3 b4 _]
  dsimp only
  rw [h3]
  dsimp only
  rw [rInt_to tk _ 0 b2]
  dsimp only
  rw [h5]
  dsimp only
  rw [h6]
  simp only [nat_int (show 0 ≤ rf by omega)]
def tNatI (s : TS) : Int × TS := (((tNat s).1 : Int), (tNat s).2)
def tLets (s : TS) : List Lt × TS := tRep tLet (tNat s).1 (tNat s).2
def tNats (s : TS) : List Int × TS := tRep tNatI (tNat s).1 (tNat s).2
def tPar (s : TS) : Par × TS :=
  let p1 := tNat s
  let p2 := tSav p1.2
  let p3 := tLets p2.2
  let p4 := tNum p3.2
  let p5 := tNats p4.2
  let p6 := tNats p5.2
  (⟨p1.1, p2.1, p3.1, p4.1, p5.1, p6.1⟩, p6.2)
theorem tNatI_to {n : Int} (h : 0 ≤ n) (hn : inI n) (r : List UInt8) : tNatI ⟨nb n ++ r, true⟩ = (n, ⟨r, true⟩) := by
  unfold inI at hn
  unfold tNatI nb
  rw [tNat_to n.toNat r (by omega)]
  simp only [nat_int h]
theorem tLet_to' {x : Lt} (h : x.check = 0) (hok : x.ok) (r : List UInt8) : tLet ⟨x.bytes ++ r, true⟩ = (x, ⟨r, true⟩) := by
  obtain ⟨k, fm, tt, n, t, v⟩ := x
  obtain ⟨h1, h2, h3, h4, h5⟩ := hok
  exact tLet_to (Lt.right h) h1 h2 h4 r
theorem tNats_to {l : List Int} (hl : l.length ≤ 1000) (h : ∀ n ∈ l, 1 ≤ n) (hn : ∀ n ∈ l, inI n) (r : List UInt8) : tNats ⟨uv l.length ++ (l.flatMap nb ++ r), true⟩ = (l, ⟨r, true⟩) := by
  unfold tNats
  rw [tNat_to l.length _ (by omega)]
  exact tRep_to l r fun x hx r => tNatI_to (by have := h x hx; omega) (hn x hx) r
theorem tPar_to {p : Par} (h : p.Right) (ho : p.Ok) (r : List UInt8) : tPar ⟨p.bytes ++ r, true⟩ = (p, ⟨r, true⟩) := by
  obtain ⟨rf, sv, bx, tk, wt, lk⟩ := p
  obtain ⟨a1, a2, a3, a4, a5, a6, a7, a8⟩ := h
  obtain ⟨b1, b2, b3, b4, b5, b6, b7⟩ := ho
  dsimp only at a1 a2 a3 a4 a5 a6 a7 a8 b1 b2 b3 b4 b5 b6 b7
  unfold inI at b1
  have h3 : tLets ⟨uv bx.length ++ (bx.flatMap Lt.bytes ++ (uv (zz tk) ++ (uv wt.length ++ (wt.flatMap nb ++ (uv lk.length ++ (lk.flatMap nb ++ r)))))), true⟩ = (bx, ⟨uv (zz tk) ++ (uv wt.length ++ (wt.flatMap nb ++ (uv lk.length ++ (lk.flatMap nb ++ r)))), true⟩) := by
    unfold tLets
    rw [tNat_to bx.length _ (by omega)]
    exact tRep_to bx _ fun x hx r => tLet_to' (a3 x hx) (b5 x hx) r
  have e0 : (Par.mk rf sv bx tk wt lk).bytes ++ r = uv rf.toNat ++ (sv.bytes ++ (uv bx.length ++ (bx.flatMap Lt.bytes ++ (uv (zz tk) ++ (uv wt.length ++ (wt.flatMap nb ++ (uv lk.length ++ (lk.flatMap nb ++ r)))))))) := by
    simp only [Par.bytes, List.append_assoc]
  unfold tPar
  rw [e0, tNat_to rf.toNat _ (by omega)]
  dsimp only
  rw [tSav_to (Sav.right a2) (fun v hv => (b3 v hv).1) (fun x hx => (b4 x hx).1) _]
  dsimp only
  rw [h3]
  dsimp only
  rw [tNum_to tk _ b2]
  dsimp only
  rw [tNats_to a7 a5 b6]
  dsimp only
  rw [tNats_to a8 a6 b7]
  simp only [nat_int (show 0 ≤ rf by omega)]
def Lt.tiny (x : Lt) : Prop := x.ok ∧ x.val.size ≤ 1048576 ∧ x.bytes.length ≤ 40000000 ∧ x.Small
theorem tLet_et (s : TS) : Et s (tLet s).2 := by
  have h := ((((tOne_et s).trans (tNat_et _).dn).trans (tNat_et _).dn).trans (tNat_et _).dn).trans (tText_et (tNat (tNat (tNat (tOne s).2).2).2).2).dn
  unfold tLet
  dsimp only
  split
  · exact h.trans (tWhole_et _).dn
  · exact h
theorem tNatI_et (s : TS) : Et s (tNatI s).2 := tNat_et s
theorem Lt.tiny_of {k fm tt n : Int} {t : ByteArray} {v : V} (h1 : inI fm) (h2 : inI tt) (h3 : inI n) (h4 : t.size ≤ 4000000) (h5 : v.tiny) : (Lt.mk k fm tt n t v).tiny := by
  obtain ⟨v1, v2, v3⟩ := h5
  refine ⟨⟨h1, h2, h3, v1, by omega⟩, v2, ?_, ⟨v1, v2, by simp only [Lt.val]; omega, h1, h2, h3, by omega⟩⟩
  unfold inI at h1 h2 h3
  have u1 := uv_len64 (n := fm.toNat) (by omega)
  have u2 := uv_len64 (n := tt.toNat) (by omega)
  have u3 := uv_len64 (n := n.toNat) (by omega)
  have u4 := uv_len64 (n := t.size) (by omega)
  simp only [Lt.bytes, List.length_cons, List.length_append, sz_len]
  split
  · omega
  · simp only [List.length_nil]; omega
theorem tLet_tiny (s : TS) : (tLet s).1.tiny := by
  unfold tLet
  dsimp only
  have n1 := tNat_lt (tOne s).2
  have n2 := tNat_lt (tNat (tOne s).2).2
  have n3 := tNat_lt (tNat (tNat (tOne s).2).2).2
  have n4 := tText_len (tNat (tNat (tNat (tOne s).2).2).2).2
  have f := tWhole_tiny (tText (tNat (tNat (tNat (tOne s).2).2).2).2).2
  generalize tText (tNat (tNat (tNat (tOne s).2).2).2).2 = p5 at *
  generalize tNat (tNat (tNat (tOne s).2).2).2 = p4 at *
  generalize tNat (tNat (tOne s).2).2 = p3 at *
  generalize tNat (tOne s).2 = p2 at *
  split
  · exact Lt.tiny_of (by simp only [inI]; omega) (by simp only [inI]; omega) (by simp only [inI]; omega) (by simp only [bs_size']; omega) f
  · exact Lt.tiny_of (by simp only [inI]; omega) (by simp only [inI]; omega) (by simp only [inI]; omega) (by simp only [bs_size']; omega) zero_tiny
structure Par.Small (p : Par) : Prop where
  sav : p.sav.Small
  box : ∀ x ∈ p.box, x.tiny
  ref : inI p.ref
  ticks : inI p.ticks
  wat : ∀ n ∈ p.wat, inI n
  lnk : ∀ n ∈ p.lnk, inI n
theorem Par.Small.ok {p : Par} (h : p.Small) : p.Ok :=
  ⟨h.ref, h.ticks, fun v hv => ⟨(h.sav.state v hv).1, by have := (h.sav.state v hv).2.2; omega⟩, fun v hv => ⟨(h.sav.inp v hv).1, by have := (h.sav.inp v hv).2.2; omega⟩, fun x hx => (h.box x hx).1, h.wat, h.lnk⟩
theorem tNatI_in (s : TS) : inI (tNatI s).1 := by have := tNat_lt s; simp only [tNatI, inI]; omega
theorem tSav_et (s : TS) : Et s (tSav s).2 := by
  have h := ((tText_et s).trans (tNat_et _).dn).trans (tRep_dn tWhole_et (tNat (tText s).2).1 (tNat (tText s).2).2).1
  exact (h.trans (tNat_et _).dn).trans (tRep_dn tInp_et (tNat (tVals (tText s).2).2).1 (tNat (tVals (tText s).2).2).2).1
theorem tLets_tiny (s : TS) : ∀ x ∈ (tLets s).1, x.tiny := fun x hx => tRep_all (p := Lt.tiny) tLet_tiny (tNat s).1 (tNat s).2 x hx
theorem tNats_in (s : TS) : ∀ n ∈ (tNats s).1, inI n := fun x hx => tRep_all (p := inI) tNatI_in (tNat s).1 (tNat s).2 x hx
theorem tNum_in (s : TS) : inI (tNum s).1 := tNumL_in 10 0 0 s
theorem tPar_small (s : TS) (h : s.l.length ≤ 2097152) : (tPar s).1.Small := by
  unfold tPar
  dsimp only
  have h1 := tNat_lt s
  obtain ⟨h2, -, -⟩ := tSav_small (tNat s).2 (by have := (tNat_et s).1; omega)
  generalize tNat s = q1 at *
  generalize tSav q1.2 = q2 at *
  have h3 := tLets_tiny q2.2
  generalize tLets q2.2 = q3 at *
  have h4 := tNum_in q3.2
  generalize tNum q3.2 = q4 at *
  have h5 := tNats_in q4.2
  generalize tNats q4.2 = q5 at *
  have h6 := tNats_in q5.2
  generalize tNats q5.2 = q6 at *
  exact ⟨h2, h3, by simp only [inI]; omega, h4, h5, h6⟩
def Par.out (p : Par) : List UInt8 := if p.check = 0 then p.bytes else []
def Par.zero : Par := ⟨0, Sav.zero, [], 0, [], []⟩
def rdP (l : List UInt8) : Par × Int := if (!(rPar ⟨l, false, 0⟩).2.bad && decide ((rPar ⟨l, false, 0⟩).2.l = [])) && decide ((rPar ⟨l, false, 0⟩).1.check = 0) then ((rPar ⟨l, false, 0⟩).1, 0) else (Par.zero, 3)
def tdP (l : List UInt8) : Par × Int := if (((tPar ⟨l, true⟩).2.ok && !decide (0 < (tPar ⟨l, true⟩).2.l.length)) && decide ((tPar ⟨l, true⟩).1.check = 0)) && decide (bs (tPar ⟨l, true⟩).1.out = bs l) then ((tPar ⟨l, true⟩).1, 0) else (Par.zero, 3)
theorem rPar_ok' (s : RS) (h : (rPar s).2.bad = false) : s = ⟨(rPar s).1.bytes ++ (rPar s).2.l, false, (rPar s).2.dep⟩ ∧ (rPar s).1.fine := rPar_ok s (rPar s).1 (rPar s).2 (Prod.eta _).symm h
theorem flat_mem {α : Type} (f : α → List UInt8) {l : List α} {x : α} (h : x ∈ l) : (f x).length ≤ (l.flatMap f).length := by
  induction l with
  | nil => simp at h
  | cons a l ih =>
    simp only [List.flatMap_cons, List.length_append]
    rcases List.mem_cons.1 h with rfl | h
    · omega
    · have := ih h; omega
theorem Par.fine_ok {p : Par} (h : p.fine) (hl : p.bytes.length ≤ 2097152) : p.Ok := by
  obtain ⟨h1, h2, h3, h4, h5, h6⟩ := h
  simp only [Par.bytes, Sav.bytes, List.length_append] at hl
  refine ⟨h1, h4, fun v hv => ⟨h2.1 v hv, by have := flat_mem V.bytes hv; omega⟩, fun x hx => ⟨(h2.2 x hx).2.1, ?_⟩, fun x hx => ?_, fun n hn => (h5 n hn).2, fun n hn => (h6 n hn).2⟩
  · have h7 := flat_mem Inp.bytes hx
    by_cases hk : x.kind = 3
    · rw [(h2.2 x hx).2.2 hk]; exact zero_ok.2
    · rw [show (Inp.bytes x).length = x.val.bytes.length + 1 by simp [Inp.bytes, hk]] at h7
      omega
  · have h7 := flat_mem Lt.bytes hx
    have h8 := h3 x hx
    obtain ⟨k, fm, tt, n, t, v⟩ := x
    simp only [Lt.fine] at h8
    obtain ⟨-, i1, i2, i3, i4, i5⟩ := h8
    by_cases hk : k = 1
    · refine ⟨i1, i2, i3, (i4 hk).1, ?_⟩
      simp only [Lt.bytes, List.length_cons, List.length_append] at h7
      rw [if_pos hk] at h7
      omega
    · rw [i5 hk]
      exact ⟨i1, i2, i3, zero_ok.1, zero_ok.2⟩
theorem same_par (l : List UInt8) (hl : l.length ≤ 2097152) : rdP l = tdP l := by
  by_cases h1 : ((!(rPar ⟨l, false, 0⟩).2.bad && decide ((rPar ⟨l, false, 0⟩).2.l = [])) && decide ((rPar ⟨l, false, 0⟩).1.check = 0)) = true
  · have hr : rdP l = ((rPar ⟨l, false, 0⟩).1, 0) := by unfold rdP; rw [if_pos h1]
    rw [hr]
    simp only [Bool.and_eq_true, Bool.not_eq_true', decide_eq_true_eq] at h1
    obtain ⟨⟨a1, a2⟩, a3⟩ := h1
    obtain ⟨b1, b2⟩ := rPar_ok' _ a1
    generalize rPar ⟨l, false, 0⟩ = q at *
    obtain ⟨x, s⟩ := q
    dsimp only at a1 a2 a3 b1 b2 ⊢
    rw [a2, List.append_nil] at b1
    have hlv : l = x.bytes := by injection b1
    have hR := Par.right a3
    have ht := tPar_to hR (Par.fine_ok b2 (by rw [← hlv]; exact hl)) []
    rw [List.append_nil, ← hlv] at ht
    unfold tdP
    rw [ht]
    dsimp only
    rw [if_pos]
    simp only [Bool.and_eq_true, decide_eq_true_eq]
    refine ⟨⟨⟨trivial, by simp⟩, a3⟩, ?_⟩
    rw [Par.out, if_pos a3, hlv]
  · have hr : rdP l = (Par.zero, 3) := by unfold rdP; rw [if_neg h1]
    rw [hr]
    unfold tdP
    split
    · rename_i h2
      exfalso
      apply h1
      simp only [Bool.and_eq_true, decide_eq_true_eq] at h2
      obtain ⟨⟨⟨a1, a2⟩, a3⟩, a4⟩ := h2
      have hsm := tPar_small ⟨l, true⟩ hl
      generalize tPar ⟨l, true⟩ = q at *
      obtain ⟨x, s⟩ := q
      dsimp only at a1 a2 a3 a4 hsm
      rw [Par.out, if_pos a3] at a4
      have hlv := bs_inj a4
      have ht := rPar_to (Par.right a3) hsm.ok []
      rw [List.append_nil, hlv] at ht
      rw [ht]
      simp [a3]
    · rfl
end Go.Proofs.Ythgackidonocpaa
namespace Go.Proofs.Ythgackidonocpaa
open Go.RowKit
set_option maxRecDepth 100000 in
set_option maxHeartbeats 8000000 in
theorem letterFault_af (x : Lt) (hs : x.val.size ≤ 1048576) : AF Try.prog 29 [x.t] (· = .lit (.int .i64 x.fault)) := by
  obtain ⟨k, fm, tt, n, t, v⟩ := x
  have h1 := valueFault_af v hs
  have h2 := none_af v
  simp only [Lt.fault]
  generalize v.check = cv at *
  generalize v.isZ = zv at *
  obtain ⟨kv, nv, tv, lv⟩ := v
  refine af_enter tok Try.func29 Try.ntmps29 Try.results29 rfl (by kernel_rfl) rfl rfl fun F hX => ?_
  cases qA : decide ((4000 : Int) < (t.size : Int))
  · skip
    cases qF : decide (fm < 0)
    · skip
      cases qT : decide (tt < 0)
      · skip
        cases qK1 : decide (k < 1)
        · skip
          cases qK5x : decide ((5 : Int) < k)
          · skip
            cases qK2 : decide (k = 2)
            · skip
              cases qN0 : decide (n = 0)
              · skip
                repeat (first | refine gG ?_ | refine zN1 (fun hlen => ?_) | refine zN2 (fun hlen => ?_) | refine zBf ?_)
                first | refine zR ?_ | refine zQ ?_
                first | rfl | (simp only [qA, qF, qT, qK1, qK5x, qK2, qN0]; first | rfl | simp) | simp
              · skip
                cases qNn : decide (n < 0)
                · skip
                  cases qN2 : decide ((2 : Int) < n)
                  · skip
                    cases qK5 : decide (k = 5)
                    · skip
                      cases qE : decide (t = ⟨#[]⟩)
                      · skip
                        repeat (first | refine gG ?_ | refine zN1 (fun hlen => ?_) | refine zN2 (fun hlen => ?_) | refine zBf ?_)
                        first | refine zR ?_ | refine zQ ?_
                        first | rfl | (simp only [qA, qF, qT, qK1, qK5x, qK2, qN0, qNn, qN2, qK5, qE]; first | rfl | simp) | simp
                      · skip
                        cases qKM : decide (k = 1)
                        · skip
                          repeat (first | refine gG ?_ | refine zN1 (fun hlen => ?_) | refine zN2 (fun hlen => ?_) | refine zBf ?_)
                          refine zCall (h2) ?_
                          rintro _ rfl
                          cases zv
                          · repeat (first | refine gG ?_ | refine zN1 (fun hlen => ?_) | refine zN2 (fun hlen => ?_) | refine zBx (fun _ => ?_))
                            first | refine zR ?_ | refine zQ ?_
                            first | rfl | (simp only [qA, qF, qT, qK1, qK5x, qK2, qN0, qNn, qN2, qK5, qE, qKM]; first | rfl | simp) | simp
                          · repeat (first | refine gG ?_ | refine zN1 (fun hlen => ?_) | refine zN2 (fun hlen => ?_) | refine zBx (fun _ => ?_))
                            first | refine zR ?_ | refine zQ ?_
                            first | rfl | (simp only [qA, qF, qT, qK1, qK5x, qK2, qN0, qNn, qN2, qK5, qE, qKM]; first | rfl | simp) | simp
                        · skip
                          repeat (first | refine gG ?_ | refine zN1 (fun hlen => ?_) | refine zN2 (fun hlen => ?_) | refine zBf ?_)
                          refine zCall (h1) ?_
                          rintro _ rfl
                          repeat (first | refine gG ?_ | refine zN1 (fun hlen => ?_) | refine zN2 (fun hlen => ?_) | refine zBx (fun _ => ?_))
                          first | refine zR ?_ | refine zQ ?_
                          first | rfl | (simp only [qA, qF, qT, qK1, qK5x, qK2, qN0, qNn, qN2, qK5, qE, qKM]; first | rfl | simp) | simp
                    · skip
                      cases qKM : decide (k = 1)
                      · skip
                        repeat (first | refine gG ?_ | refine zN1 (fun hlen => ?_) | refine zN2 (fun hlen => ?_) | refine zBf ?_)
                        refine zCall (h2) ?_
                        rintro _ rfl
                        cases zv
                        · repeat (first | refine gG ?_ | refine zN1 (fun hlen => ?_) | refine zN2 (fun hlen => ?_) | refine zBx (fun _ => ?_))
                          first | refine zR ?_ | refine zQ ?_
                          first | rfl | (simp only [qA, qF, qT, qK1, qK5x, qK2, qN0, qNn, qN2, qK5, qKM]; first | rfl | simp) | simp
                        · repeat (first | refine gG ?_ | refine zN1 (fun hlen => ?_) | refine zN2 (fun hlen => ?_) | refine zBx (fun _ => ?_))
                          first | refine zR ?_ | refine zQ ?_
                          first | rfl | (simp only [qA, qF, qT, qK1, qK5x, qK2, qN0, qNn, qN2, qK5, qKM]; first | rfl | simp) | simp
                      · skip
                        repeat (first | refine gG ?_ | refine zN1 (fun hlen => ?_) | refine zN2 (fun hlen => ?_) | refine zBf ?_)
                        refine zCall (h1) ?_
                        rintro _ rfl
                        repeat (first | refine gG ?_ | refine zN1 (fun hlen => ?_) | refine zN2 (fun hlen => ?_) | refine zBx (fun _ => ?_))
                        first | refine zR ?_ | refine zQ ?_
                        first | rfl | (simp only [qA, qF, qT, qK1, qK5x, qK2, qN0, qNn, qN2, qK5, qKM]; first | rfl | simp) | simp
                  · skip
                    repeat (first | refine gG ?_ | refine zN1 (fun hlen => ?_) | refine zN2 (fun hlen => ?_) | refine zBf ?_)
                    first | refine zR ?_ | refine zQ ?_
                    first | rfl | (simp only [qA, qF, qT, qK1, qK5x, qK2, qN0, qNn, qN2]; first | rfl | simp) | simp
                · skip
                  repeat (first | refine gG ?_ | refine zN1 (fun hlen => ?_) | refine zN2 (fun hlen => ?_) | refine zBf ?_)
                  first | refine zR ?_ | refine zQ ?_
                  first | rfl | (simp only [qA, qF, qT, qK1, qK5x, qK2, qN0, qNn]; first | rfl | simp) | simp
            · skip
              cases qNn : decide (n < 0)
              · skip
                cases qN2 : decide ((2 : Int) < n)
                · skip
                  cases qKM : decide (k = 1)
                  · skip
                    repeat (first | refine gG ?_ | refine zN1 (fun hlen => ?_) | refine zN2 (fun hlen => ?_) | refine zBf ?_)
                    refine zCall (h2) ?_
                    rintro _ rfl
                    cases zv
                    · repeat (first | refine gG ?_ | refine zN1 (fun hlen => ?_) | refine zN2 (fun hlen => ?_) | refine zBx (fun _ => ?_))
                      first | refine zR ?_ | refine zQ ?_
                      first | rfl | (simp only [qA, qF, qT, qK1, qK5x, qK2, qNn, qN2, qKM]; first | rfl | simp) | simp
                    · repeat (first | refine gG ?_ | refine zN1 (fun hlen => ?_) | refine zN2 (fun hlen => ?_) | refine zBx (fun _ => ?_))
                      first | refine zR ?_ | refine zQ ?_
                      first | rfl | (simp only [qA, qF, qT, qK1, qK5x, qK2, qNn, qN2, qKM]; first | rfl | simp) | simp
                  · skip
                    repeat (first | refine gG ?_ | refine zN1 (fun hlen => ?_) | refine zN2 (fun hlen => ?_) | refine zBf ?_)
                    refine zCall (h1) ?_
                    rintro _ rfl
                    repeat (first | refine gG ?_ | refine zN1 (fun hlen => ?_) | refine zN2 (fun hlen => ?_) | refine zBx (fun _ => ?_))
                    first | refine zR ?_ | refine zQ ?_
                    first | rfl | (simp only [qA, qF, qT, qK1, qK5x, qK2, qNn, qN2, qKM]; first | rfl | simp) | simp
                · skip
                  repeat (first | refine gG ?_ | refine zN1 (fun hlen => ?_) | refine zN2 (fun hlen => ?_) | refine zBf ?_)
                  first | refine zR ?_ | refine zQ ?_
                  first | rfl | (simp only [qA, qF, qT, qK1, qK5x, qK2, qNn, qN2]; first | rfl | simp) | simp
              · skip
                repeat (first | refine gG ?_ | refine zN1 (fun hlen => ?_) | refine zN2 (fun hlen => ?_) | refine zBf ?_)
                first | refine zR ?_ | refine zQ ?_
                first | rfl | (simp only [qA, qF, qT, qK1, qK5x, qK2, qNn]; first | rfl | simp) | simp
          · skip
            repeat (first | refine gG ?_ | refine zN1 (fun hlen => ?_) | refine zN2 (fun hlen => ?_) | refine zBf ?_)
            first | refine zR ?_ | refine zQ ?_
            first | rfl | (simp only [qA, qF, qT, qK1, qK5x]; first | rfl | simp) | simp
        · skip
          repeat (first | refine gG ?_ | refine zN1 (fun hlen => ?_) | refine zN2 (fun hlen => ?_) | refine zBf ?_)
          first | refine zR ?_ | refine zQ ?_
          first | rfl | (simp only [qA, qF, qT, qK1]; first | rfl | simp) | simp
      · skip
        repeat (first | refine gG ?_ | refine zN1 (fun hlen => ?_) | refine zN2 (fun hlen => ?_) | refine zBf ?_)
        first | refine zR ?_ | refine zQ ?_
        first | rfl | (simp only [qA, qF, qT]; first | rfl | simp) | simp
    · skip
      repeat (first | refine gG ?_ | refine zN1 (fun hlen => ?_) | refine zN2 (fun hlen => ?_) | refine zBf ?_)
      first | refine zR ?_ | refine zQ ?_
      first | rfl | (simp only [qA, qF]; first | rfl | simp) | simp
  · skip
    repeat (first | refine gG ?_ | refine zN1 (fun hlen => ?_) | refine zN2 (fun hlen => ?_) | refine zBf ?_)
    first | refine zR ?_ | refine zQ ?_
    first | rfl | (simp only [qA]; first | rfl | simp) | simp
end Go.Proofs.Ythgackidonocpaa
