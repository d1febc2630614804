/-
  Abstract states: what a closure holds, one layer deeper; calls that look at the caller's own.
-/
import Derived.Test.YthgackidonocpaaAb10
namespace Go.Proofs.Ythgackidonocpaa
open Go.RowKit

mutual
def Rz2 (hp : List Blk) : AV → T → Prop
  | .ptr i b off, t' => ∃ ty cs ts, hp[i]? = some (.box b ty cs) ∧ Rzs hp cs ts ∧ t' = .pin ts off
  | .fn f cap, t' => ∃ ts, t' = .fn f ts ∧ Rz2s hp cap ts
  | .c t, t' => Rz hp (.c t) t'
  | .own i v, t' => Rz hp (.own i v) t'
  | .agg cs, t' => Rz hp (.agg cs) t'
  | .tup cs, t' => Rz hp (.tup cs) t'
  | .eptr _ _ _, _ => False
  | .junk, _ => False
def Rz2s (hp : List Blk) : List AV → List T → Prop
  | [], ts => ts = []
  | a :: as, ts => ∃ t r, ts = t :: r ∧ Rz2 hp a t ∧ Rz2s hp as r
end
section
variable {hp : List Blk}
theorem rz2_ptr {i b off : Nat} {ty : TypeId} {cs : List AV} {ts : List T} (h : hp[i]? = some (.box b ty cs)) (h' : Rzs hp cs ts) : Rz2 hp (.ptr i b off) (.pin ts off) := by simp only [Rz2]; exact ⟨ty, cs, ts, h, h', rfl⟩
theorem rz2_fn {f : Fn} {cs : List AV} {ts : List T} (h : Rz2s hp cs ts) : Rz2 hp (.fn f cs) (.fn f ts) := by simp only [Rz2]; exact ⟨ts, rfl, h⟩
theorem rz2_c {t t' : T} (h : Rz hp (.c t) t') : Rz2 hp (.c t) t' := by simp only [Rz2]; exact h
theorem rz2_own {i : Nat} {v : Value} {t' : T} (h : Rz hp (.own i v) t') : Rz2 hp (.own i v) t' := by simp only [Rz2]; exact h
theorem rz2_agg {cs : List AV} {t' : T} (h : Rz hp (.agg cs) t') : Rz2 hp (.agg cs) t' := by simp only [Rz2]; exact h
theorem rz2s_nil : Rz2s hp [] [] := by simp only [Rz2s]
theorem rz2s_cons {a : AV} {as : List AV} {t : T} {ts : List T} (h : Rz2 hp a t) (h' : Rz2s hp as ts) : Rz2s hp (a :: as) (t :: ts) := by simp only [Rz2s]; exact ⟨t, ts, rfl, h, h'⟩
theorem rzs_self : ∀ {ts : List T}, Rzs hp (ts.map .c) ts
  | [] => by simp only [List.map_nil, Rzs]
  | t :: ts => by simp only [List.map_cons, Rzs]; exact ⟨t, ts, rfl, rz_c, rzs_self⟩
end
section
variable {P : Program} {F : Frm}
mutual
theorem rz2_sound {M : Mm} {hp : List Blk} {w : World} (h : HeapOk F M hp w) {B : Nat} (hB : ∀ (i : Nat) x b, hp[i]? = some x → x.blk = some b → B ≤ b) : ∀ (av : AV) (t : T) (u : Value), Rz2 hp av t → RA M av u → RT (frz M B w) t u
  | .ptr i b off, t', u, hz, hr => by
    simp only [Rz2] at hz
    obtain ⟨ty, cs, ts, h1, h2, rfl⟩ := hz
    simp only [RA] at hr
    subst hr
    obtain ⟨xs, hh, hx, hone⟩ := h.at_ i _ h1
    simp only [RT]
    refine ⟨⟨b, 0, none⟩, xs, by unfold Addr.add; split <;> simp_all, fun j x hj => ?_, rzs_sound h hB _ _ _ h2 hx⟩
    have hadd : (⟨b, 0, none⟩ : Addr).add j = ⟨b, j, none⟩ := by unfold Addr.add; split <;> simp_all
    rw [hadd]
    refine frz_new ((h.out i _ b h1 rfl).2 _ rfl) (hB i _ b h1 rfl) ?_ (hone x (List.mem_of_getElem? hj))
    rw [cell_of_row _ b j _ _ _ hh]
    simpa using hj
  | .fn f cap, t', u, hz, hr => by
    simp only [Rz2] at hz
    obtain ⟨ts, rfl, h1⟩ := hz
    simp only [RA] at hr
    obtain ⟨xs, rfl, h2⟩ := hr
    simp only [RT]
    exact ⟨xs, rfl, rz2s_sound h hB cap ts xs h1 h2⟩
  | .c t, t', u, hz, hr => by simp only [Rz2] at hz; exact rz_sound h hB _ _ _ hz hr
  | .own i v, t', u, hz, hr => by simp only [Rz2] at hz; exact rz_sound h hB _ _ _ hz hr
  | .agg cs, t', u, hz, hr => by simp only [Rz2] at hz; exact rz_sound h hB _ _ _ hz hr
  | .tup cs, t', u, hz, hr => by simp only [Rz2] at hz; exact rz_sound h hB _ _ _ hz hr
  | .eptr _ _ _, _, _, hz, _ => by simp only [Rz2] at hz
  | .junk, _, _, hz, _ => by simp only [Rz2] at hz
theorem rz2s_sound {M : Mm} {hp : List Blk} {w : World} (h : HeapOk F M hp w) {B : Nat} (hB : ∀ (i : Nat) x b, hp[i]? = some x → x.blk = some b → B ≤ b) : ∀ (as : List AV) (ts : List T) (us : List Value), Rz2s hp as ts → RAs M as us → RTs (frz M B w) ts us
  | [], ts, us, hz, hr => by
    simp only [Rz2s] at hz
    simp only [RAs] at hr
    subst hz; subst hr
    simp only [RTs]
  | a :: as, ts, us, hz, hr => by
    simp only [Rz2s] at hz
    obtain ⟨t, r, rfl, h1, h2⟩ := hz
    simp only [RAs] at hr
    obtain ⟨x, xs, rfl, h3, h4⟩ := hr
    simp only [RTs]
    exact ⟨x, xs, rfl, rz2_sound h hB a t x h1 h3, rz2s_sound h hB as r xs h2 h4⟩
end
variable {d : Option Tmp} {ty : TypeId} {pos : String} {aft : Array Edge} {g : Option (Nat × Bool)} {ρ : Operand → AV} {hp : List Blk} {K : AV → List Blk → Prop}
theorem v_peek {f : FuncId} {y : Operand} {xs : List Operand} {ats : Array TypeId} {ts : List T} {R : T → Prop} {cap : List AV} (hc : AF P f ts R) (hy : ρ y = .fn (.func f) cap) (hx : Rz2s hp (xs.map ρ ++ cap) ts) (h : ∀ r, R r → flatT r = true ∧ K (.c r) hp) : LO P F ⟨d, .call { callee := .value y, args := xs.toArray, argTypes := ats }, ty, pos, aft, g⟩ ρ hp K := by
  refine ⟨fun M e w he hh => ?_⟩
  obtain ⟨hf, hcall⟩ := hc
  have h1 := he y (by simp [Op.operands, Call.operands])
  rw [hy] at h1
  simp only [RA] at h1
  obtain ⟨cs, hu, hcs⟩ := h1
  rw [run_call hf hu]
  have hargs := rz2s_sound hh (B := 0) (fun _ _ _ _ _ => Nat.zero_le _) _ _ _ hx ((ev_all xs (fun x hx => he x (by simp [Op.operands, Call.operands, hx]))).app hcs)
  refine (hcall _ w _ (frz_ok hh.mem 0) hargs).mono ?_
  rintro en w' ⟨v, r, M', rfl, hR, _, _, hrt, hb⟩
  exact ⟨v, rfl, M, _, hp, (h r hR).2, Ext.refl _ _, hh.below hb (Ext.refl _ _) (hh.mem.below hb), by simp only [RA]; exact flat_any _ _ (h r hR).1 hrt⟩
end

attribute [irreducible] Rz2 Rz2s

/-- the place of the first that p holds of, or -1 -/
def idxI {α : Type} (p : α → Bool) (l : List α) : Int := match l.findIdx? p with | some i => (i : Int) | none => -1
theorem idxI_cons {α : Type} (p : α → Bool) (a : α) (l : List α) : idxI p (a :: l) = if p a then 0 else (if idxI p l < 0 then -1 else idxI p l + 1) := by
  unfold idxI
  rw [List.findIdx?_cons]
  cases hp : p a with
  | true => simp
  | false =>
    cases h : l.findIdx? p with
    | none => simp
    | some i => simp; omega
/-- at place k: not found before -/
def idxAt {α : Type} (p : α → Bool) (l : List α) (k : Nat) : Prop := idxI p l = if idxI p (l.drop k) < 0 then -1 else idxI p (l.drop k) + k
theorem idxAt_zero {α : Type} (p : α → Bool) (l : List α) : idxAt p l 0 := by
  unfold idxAt
  rw [List.drop_zero]
  split
  · rename_i h
    unfold idxI at *
    split
    · rename_i i hi; rw [hi] at h; simp only at h; omega
    · rfl
  · simp
theorem idxAt_no {α : Type} {p : α → Bool} {l : List α} {k : Nat} {a : α} (h : idxAt p l k) (ha : l[k]? = some a) (hp : p a = false) : idxAt p l (k + 1) := by
  unfold idxAt at *
  obtain ⟨h1, rfl⟩ := List.getElem?_eq_some_iff.1 ha
  rw [List.drop_eq_getElem_cons h1, idxI_cons, hp] at h
  rw [h]
  simp only [Bool.false_eq_true, if_false]
  by_cases hc : idxI p (l.drop (k + 1)) < 0
  · simp [hc]
  · simp only [hc, if_false]
    rw [if_neg (by omega)]
    omega
theorem idxAt_yes {α : Type} {p : α → Bool} {l : List α} {k : Nat} {a : α} (h : idxAt p l k) (ha : l[k]? = some a) (hp : p a = true) : idxI p l = k := by
  unfold idxAt at h
  obtain ⟨h1, rfl⟩ := List.getElem?_eq_some_iff.1 ha
  rw [List.drop_eq_getElem_cons h1, idxI_cons, hp] at h
  simpa using h
theorem idxAt_end {α : Type} {p : α → Bool} {l : List α} (h : idxAt p l l.length) : idxI p l = -1 := by
  unfold idxAt at h
  rw [List.drop_length] at h
  simpa [idxI] using h
theorem idxI_any {α : Type} (p : α → Bool) (l : List α) : decide (0 ≤ idxI p l) = l.any p := by
  induction l with
  | nil => simp [idxI]
  | cons a l ih =>
    rw [idxI_cons, List.any_cons, ← ih]
    cases hp : p a with
    | true => simp
    | false =>
      by_cases hc : idxI p l < 0
      · simp [hc]
      · simp [hc]; omega
theorem idxI_find {α : Type} (p : α → Bool) (l : List α) : (idxI p l = -1 ∧ l.find? p = none) ∨ ∃ (k : Nat) (m : α), idxI p l = (k : Int) ∧ k < l.length ∧ l[k]? = some m ∧ l.find? p = some m := by
  unfold idxI
  cases h : l.findIdx? p with
  | some i =>
    right
    obtain ⟨hi, hp, hn⟩ := List.findIdx?_eq_some_iff_getElem.1 h
    refine ⟨i, l[i], rfl, hi, List.getElem?_eq_getElem hi, ?_⟩
    rw [List.find?_eq_some_iff_getElem]
    exact ⟨hp, i, hi, rfl, fun j hj => by simpa using hn j hj⟩
  | none =>
    left
    refine ⟨rfl, ?_⟩
    rw [List.find?_eq_none]
    intro x hx
    have := List.findIdx?_eq_none_iff.1 h x hx
    simp [this]

end Go.Proofs.Ythgackidonocpaa
