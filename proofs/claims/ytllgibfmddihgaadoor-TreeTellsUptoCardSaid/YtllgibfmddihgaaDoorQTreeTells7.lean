/-
  Texts of this proof, part 7: Tma Tmb Tmc Tmd Tme Tmf.
-/
import Derived.Test.YtllgibfmddihgaaDoorQTreeTells6
import Derived.Laws.StructEq
import Derived.Lib.AppendStr
import Derived.Lib.ItoaNum
namespace Go.Proofs.YtllgibfmddihgaaDoor
open Go.RowKit
def dval (l : List UInt8) : Nat := l.foldl (fun a c => a * 10 + (c.toNat - 48)) 0
theorem dval_snoc (l : List UInt8) (c : UInt8) : dval (l ++ [c]) = dval l * 10 + (c.toNat - 48) := by simp [dval]
theorem dig_nat {u : Nat} (h : u < 10) : (UInt8.ofNat (48 + u)).toNat = 48 + u := by simp; omega
theorem dval_dec (u : Nat) : dval (Lib.decDigits u) = u ∧ ∀ c ∈ Lib.decDigits u, 48 ≤ c.toNat ∧ c.toNat ≤ 57 := by
  induction u using Nat.strongRecOn with
  | _ u ih =>
    rw [Lib.decDigits]
    by_cases h : u < 10
    · rw [dif_pos h]
      have h1 := dig_nat h
      refine ⟨?_, fun c hc => ?_⟩
      · have : dval ([] ++ [UInt8.ofNat (48 + u)]) = u := by rw [dval_snoc, h1]; simp [dval]
        simpa using this
      · rw [List.mem_singleton] at hc
        subst hc
        omega
    · rw [dif_neg h]
      obtain ⟨g1, g2⟩ := ih (u / 10) (by omega)
      have h1 := dig_nat (show u % 10 < 10 by omega)
      refine ⟨by rw [dval_snoc, g1, h1]; omega, fun c hc => ?_⟩
      rcases List.mem_append.1 hc with hc | hc
      · exact g2 c hc
      · rw [List.mem_singleton] at hc
        subst hc
        omega
theorem itoa_no (n : Int) : (44 : UInt8) ∉ Lib.itoa n := by
  intro h
  have key : ∀ u, (44 : UInt8) ∈ Lib.decDigits u → False := fun u hu => by
    have := (dval_dec u).2 _ hu
    have e : (44 : UInt8).toNat = 44 := rfl
    omega
  unfold Lib.itoa at h
  split at h
  · rcases List.mem_cons.1 h with h | h
    · exact absurd h (by decide)
    · exact key _ h
  · exact key _ h
theorem itoa_inj {a b : Int} (h : Lib.itoa a = Lib.itoa b) : a = b := by
  have key : ∀ (u : Nat) (l : List UInt8), 45 :: l = Lib.decDigits u → False := fun u l e => by
    have := (dval_dec u).2 45 (by rw [← e]; simp)
    have e : (45 : UInt8).toNat = 45 := rfl
    omega
  unfold Lib.itoa at h
  split at h <;> split at h
  · injection h with _ h
    have := congrArg dval h
    rw [(dval_dec _).1, (dval_dec _).1] at this
    omega
  · exact (key _ _ h).elim
  · exact (key _ _ h.symm).elim
  · have := congrArg dval h
    rw [(dval_dec _).1, (dval_dec _).1] at this
    omega
theorem cut_at {c : UInt8} : ∀ {a b r s : List UInt8}, c ∉ a → c ∉ b → a ++ c :: r = b ++ c :: s → a = b ∧ r = s
  | [], [], r, s, _, _, h => by simpa using h
  | [], y :: b, r, s, _, hb, h => by
    simp only [List.nil_append, List.cons_append, List.cons.injEq] at h
    exact absurd (by simp [h.1]) hb
  | x :: a, [], r, s, ha, _, h => by
    simp only [List.nil_append, List.cons_append, List.cons.injEq] at h
    exact absurd (by simp [h.1]) ha
  | x :: a, y :: b, r, s, ha, hb, h => by
    simp only [List.cons_append, List.cons.injEq] at h
    obtain ⟨h1, h2⟩ := cut_at (fun e => ha (List.mem_cons_of_mem _ e)) (fun e => hb (List.mem_cons_of_mem _ e)) h.2
    exact ⟨by rw [h.1, h1], h2⟩
def numB (x : Int) : List UInt8 := Lib.itoa x ++ [44]
def textB (s : ByteArray) : List UInt8 := numB (s.size : Nat) ++ s.data.toList
def numsB (l : List Int) : List UInt8 := l.flatMap numB
def textsB (l : List ByteArray) : List UInt8 := l.flatMap textB
theorem numB_of {a b : Int} {r s : List UInt8} (h : numB a ++ r = numB b ++ s) : a = b ∧ r = s := by
  simp only [numB, List.append_assoc, List.singleton_append] at h
  obtain ⟨h1, h2⟩ := cut_at (itoa_no a) (itoa_no b) h
  exact ⟨itoa_inj h1, h2⟩
theorem lenB_of {a b : Nat} {r s : List UInt8} (h : numB (a : Nat) ++ r = numB (b : Nat) ++ s) : a = b ∧ r = s := by
  obtain ⟨h1, h2⟩ := numB_of h
  exact ⟨by omega, h2⟩
theorem textB_of {a b : ByteArray} {r s : List UInt8} (h : textB a ++ r = textB b ++ s) : a = b ∧ r = s := by
  simp only [textB, List.append_assoc] at h
  obtain ⟨h1, h2⟩ := lenB_of h
  obtain ⟨h3, h4⟩ := List.append_inj h2 (by simpa using h1)
  refine ⟨?_, h4⟩
  cases a; cases b
  simp only [ByteArray.mk.injEq]
  exact Array.ext' h3
structure Code {α : Type} (enc : α → List UInt8) (eq : α → α → Bool) (a : α) : Prop where
  to : ∀ b, eq a b = true → enc a = enc b
  of : ∀ b r s, enc a ++ r = enc b ++ s → eq a b = true ∧ r = s
theorem codes_to {α : Type} {enc : α → List UInt8} {eq : α → α → Bool} : ∀ {l l' : List α}, (∀ a ∈ l, Code enc eq a) → eqBy eq l l' = true → l.length = l'.length ∧ l.flatMap enc = l'.flatMap enc
  | [], [], _, _ => ⟨rfl, rfl⟩
  | [], _ :: _, _, h => by simp [eqBy] at h
  | _ :: _, [], _, h => by simp [eqBy] at h
  | a :: l, b :: l', hc, h => by
    simp only [eqBy, Bool.and_eq_true] at h
    obtain ⟨h1, h2⟩ := codes_to (fun x hx => hc x (List.mem_cons_of_mem _ hx)) h.2
    exact ⟨by simp [h1], by simp only [List.flatMap_cons]; rw [(hc a (by simp)).to b h.1, h2]⟩
theorem codes_of {α : Type} {enc : α → List UInt8} {eq : α → α → Bool} : ∀ {l l' : List α} {r s : List UInt8}, (∀ a ∈ l, Code enc eq a) → l.length = l'.length → l.flatMap enc ++ r = l'.flatMap enc ++ s → eqBy eq l l' = true ∧ r = s
  | [], [], _, _, _, _, h => ⟨rfl, by simpa using h⟩
  | [], _ :: _, _, _, _, hl, _ => by simp at hl
  | _ :: _, [], _, _, _, hl, _ => by simp at hl
  | a :: l, b :: l', r, s, hc, hl, h => by
    simp only [List.flatMap_cons, List.append_assoc] at h
    obtain ⟨h1, h2⟩ := (hc a (by simp)).of b _ _ h
    obtain ⟨h3, h4⟩ := codes_of (fun x hx => hc x (List.mem_cons_of_mem _ hx)) (by simpa using hl) h2
    exact ⟨by simp [eqBy, h1, h3], h4⟩
theorem text_code (a : ByteArray) : Code textB (fun x y => decide (x = y)) a := ⟨fun b h => by simp at h; rw [h], fun b r s h => by obtain ⟨h1, h2⟩ := textB_of h; exact ⟨by simp [h1], h2⟩⟩
def eqStr (x y : ByteArray) : Bool := decide (x = y)
theorem str_code (a : ByteArray) : Code textB eqStr a := text_code a
mutual
def Y.mark : Y → List UInt8
  | .mk k n l => numB k ++ (numB (l.length : Nat) ++ (textB n ++ Y.marks l))
def Y.marks : List Y → List UInt8
  | [] => []
  | v :: r => v.mark ++ Y.marks r
end
mutual
def Y.same : Y → Y → Bool
  | .mk k n l, .mk k' n' l' => decide (k = k') && (decide (n = n') && Y.sames l l')
def Y.sames : List Y → List Y → Bool
  | [], [] => true
  | a :: l, b :: r => a.same b && Y.sames l r
  | [], _ :: _ => false
  | _ :: _, [] => false
end
theorem Y.marks_eq : ∀ l : List Y, Y.marks l = l.flatMap Y.mark
  | [] => rfl
  | v :: l => by rw [Y.marks, Y.marks_eq l]; rfl
theorem Y.sames_eq : ∀ l r : List Y, Y.sames l r = eqBy Y.same l r
  | [], [] => rfl
  | a :: l, b :: r => by rw [Y.sames, eqBy, Y.sames_eq l r]
  | [], _ :: _ => by simp [Y.sames, eqBy]
  | _ :: _, [] => by simp [Y.sames, eqBy]
theorem Y.code : ∀ a : Y, Code Y.mark Y.same a := by
  intro a
  induction a using Y.ind with
  | h k n l ih =>
    refine ⟨fun b h => ?_, fun b r s h => ?_⟩
    · obtain ⟨k', n', l'⟩ := b
      simp only [Y.same, Y.sames_eq, Bool.and_eq_true, decide_eq_true_eq] at h
      obtain ⟨rfl, rfl, h⟩ := h
      obtain ⟨h1, h2⟩ := codes_to ih h
      simp only [Y.mark, Y.marks_eq, h1, h2]
    · obtain ⟨k', n', l'⟩ := b
      simp only [Y.mark, Y.marks_eq, List.append_assoc] at h
      obtain ⟨e1, h⟩ := numB_of h
      obtain ⟨hl, h⟩ := lenB_of h
      obtain ⟨e2, h⟩ := textB_of h
      obtain ⟨h1, h2⟩ := codes_of ih hl h
      exact ⟨by simp [e1, e2, Y.same, Y.sames_eq, h1], h2⟩
mutual
def V.mark : V → List UInt8
  | .mk k n t l => numB k ++ (numB n ++ (numB (l.length : Nat) ++ (textB t ++ V.marks l)))
def V.marks : List V → List UInt8
  | [] => []
  | v :: r => v.mark ++ V.marks r
end
mutual
def V.alike : V → V → Bool
  | .mk k n t l, .mk k' n' t' l' => decide (k = k') && (decide (n = n') && (decide (t = t') && V.alikes l l'))
def V.alikes : List V → List V → Bool
  | [], [] => true
  | a :: l, b :: r => a.alike b && V.alikes l r
  | [], _ :: _ => false
  | _ :: _, [] => false
end
theorem V.marks_eq : ∀ l : List V, V.marks l = l.flatMap V.mark
  | [] => rfl
  | v :: l => by rw [V.marks, V.marks_eq l]; rfl
theorem V.alikes_eq : ∀ l r : List V, V.alikes l r = eqBy V.alike l r
  | [], [] => rfl
  | a :: l, b :: r => by rw [V.alikes, eqBy, V.alikes_eq l r]
  | [], _ :: _ => by simp [V.alikes, eqBy]
  | _ :: _, [] => by simp [V.alikes, eqBy]
theorem V.code : ∀ a : V, Code V.mark V.alike a := by
  intro a
  induction a using V.ind with
  | h k n t l ih =>
    refine ⟨fun b h => ?_, fun b r s h => ?_⟩
    · obtain ⟨k', n', t', l'⟩ := b
      simp only [V.alike, V.alikes_eq, Bool.and_eq_true, decide_eq_true_eq] at h
      obtain ⟨rfl, rfl, rfl, h⟩ := h
      obtain ⟨h1, h2⟩ := codes_to ih h
      simp only [V.mark, V.marks_eq, h1, h2]
    · obtain ⟨k', n', t', l'⟩ := b
      simp only [V.mark, V.marks_eq, List.append_assoc] at h
      obtain ⟨e1, h⟩ := numB_of h
      obtain ⟨e2, h⟩ := numB_of h
      obtain ⟨hl, h⟩ := lenB_of h
      obtain ⟨e3, h⟩ := textB_of h
      obtain ⟨h1, h2⟩ := codes_of ih hl h
      exact ⟨by simp [e1, e2, e3, V.alike, V.alikes_eq, h1], h2⟩
mutual
def Ex.mark : Ex → List UInt8
  | .mk k n t ns ys l rs _ => numB k ++ (numB n ++ (numB (ns.length : Nat) ++ (numB (ys.length : Nat) ++ (numB (l.length : Nat) ++ (numB (rs.length : Nat) ++ (textB t ++ (textsB ns ++ (ys.flatMap Y.mark ++ (Ex.marks l ++ Ar.marks rs)))))))))
def Ex.marks : List Ex → List UInt8
  | [] => []
  | v :: r => v.mark ++ Ex.marks r
def Ar.mark : Ar → List UInt8
  | .mk p b => p.mark ++ b.mark
def Ar.marks : List Ar → List UInt8
  | [] => []
  | v :: r => v.mark ++ Ar.marks r
end
mutual
def Ex.same : Ex → Ex → Bool
  | .mk k n t ns ys l rs _, .mk k' n' t' ns' ys' l' rs' _ => decide (k = k') && (decide (n = n') && (decide (t = t') && (eqBy eqStr ns ns' && (eqBy Y.same ys ys' && (Ex.sames l l' && Ar.sames rs rs')))))
def Ex.sames : List Ex → List Ex → Bool
  | [], [] => true
  | a :: l, b :: r => a.same b && Ex.sames l r
  | [], _ :: _ => false
  | _ :: _, [] => false
def Ar.same : Ar → Ar → Bool
  | .mk p b, .mk p' b' => p.alike p' && b.same b'
def Ar.sames : List Ar → List Ar → Bool
  | [], [] => true
  | a :: l, b :: r => a.same b && Ar.sames l r
  | [], _ :: _ => false
  | _ :: _, [] => false
end
theorem Ex.marks_eq : ∀ l : List Ex, Ex.marks l = l.flatMap Ex.mark
  | [] => rfl
  | v :: l => by rw [Ex.marks, Ex.marks_eq l]; rfl
theorem Ar.marks_eq : ∀ l : List Ar, Ar.marks l = l.flatMap Ar.mark
  | [] => rfl
  | v :: l => by rw [Ar.marks, Ar.marks_eq l]; rfl
theorem Ex.sames_eq : ∀ l r : List Ex, Ex.sames l r = eqBy Ex.same l r
  | [], [] => by simp [Ex.sames, eqBy]
  | a :: l, b :: r => by rw [Ex.sames, eqBy, Ex.sames_eq l r]
  | [], _ :: _ => by simp [Ex.sames, eqBy]
  | _ :: _, [] => by simp [Ex.sames, eqBy]
theorem Ar.sames_eq : ∀ l r : List Ar, Ar.sames l r = eqBy Ar.same l r
  | [], [] => by simp [Ar.sames, eqBy]
  | a :: l, b :: r => by rw [Ar.sames, eqBy, Ar.sames_eq l r]
  | [], _ :: _ => by simp [Ar.sames, eqBy]
  | _ :: _, [] => by simp [Ar.sames, eqBy]
theorem Ar.code_of {p : V} {b : Ex} (h : Code Ex.mark Ex.same b) : Code Ar.mark Ar.same (.mk p b) := by
  refine ⟨fun c hc => ?_, fun c r s hc => ?_⟩
  · obtain ⟨p', b'⟩ := c
    simp only [Ar.same, Bool.and_eq_true] at hc
    rw [Ar.mark, Ar.mark, p.code.to _ hc.1, h.to _ hc.2]
  · obtain ⟨p', b'⟩ := c
    simp only [Ar.mark, List.append_assoc] at hc
    obtain ⟨h1, hc⟩ := p.code.of _ _ _ hc
    obtain ⟨h2, hc⟩ := h.of _ _ _ hc
    exact ⟨by simp [Ar.same, h1, h2], hc⟩
theorem Ex.code : ∀ a : Ex, Code Ex.mark Ex.same a := by
  intro a
  induction a using Ex.ind with
  | h k n t ns ys l rs a ih1 ih2 =>
    have ih3 : ∀ r ∈ rs, Code Ar.mark Ar.same r := fun r hr => by
      obtain ⟨p, b⟩ := r
      exact Ar.code_of (ih2 _ hr p b rfl)
    refine ⟨fun b h => ?_, fun b r s h => ?_⟩
    · obtain ⟨k', n', t', ns', ys', l', rs', a'⟩ := b
      simp only [Ex.same, Ex.sames_eq, Ar.sames_eq, Bool.and_eq_true, decide_eq_true_eq] at h
      obtain ⟨rfl, rfl, rfl, h1, h2, h3, h4⟩ := h
      obtain ⟨g1, g2⟩ := codes_to (fun a _ => str_code a) h1
      obtain ⟨g3, g4⟩ := codes_to (fun a _ => Y.code a) h2
      obtain ⟨g5, g6⟩ := codes_to ih1 h3
      obtain ⟨g7, g8⟩ := codes_to ih3 h4
      simp only [Ex.mark, Ex.marks_eq, Ar.marks_eq, textsB, g1, g2, g3, g4, g5, g6, g7, g8]
    · obtain ⟨k', n', t', ns', ys', l', rs', a'⟩ := b
      simp only [Ex.mark, Ex.marks_eq, Ar.marks_eq, textsB, List.append_assoc] at h
      obtain ⟨e1, h⟩ := numB_of h
      obtain ⟨e2, h⟩ := numB_of h
      obtain ⟨h1, h⟩ := lenB_of h
      obtain ⟨h2, h⟩ := lenB_of h
      obtain ⟨h3, h⟩ := lenB_of h
      obtain ⟨h4, h⟩ := lenB_of h
      obtain ⟨e3, h⟩ := textB_of h
      obtain ⟨g1, h⟩ := codes_of (fun a _ => str_code a) h1 h
      obtain ⟨g2, h⟩ := codes_of (fun a _ => Y.code a) h2 h
      obtain ⟨g3, h⟩ := codes_of ih1 h3 h
      obtain ⟨g4, h⟩ := codes_of ih3 h4 h
      exact ⟨by simp [e1, e2, e3, Ex.same, Ex.sames_eq, Ar.sames_eq, g1, g2, g3, g4], h⟩
def namesB (l : List ByteArray) : List UInt8 := numB (l.length : Nat) ++ textsB l
def typesB (l : List Y) : List UInt8 := numB (l.length : Nat) ++ l.flatMap Y.mark
theorem names_to {l l' : List ByteArray} (h : eqBy eqStr l l' = true) : namesB l = namesB l' := by
  obtain ⟨h1, h2⟩ := codes_to (fun a _ => str_code a) h
  simp only [namesB, textsB, h1, h2]
theorem names_of {l l' : List ByteArray} {r s : List UInt8} (h : namesB l ++ r = namesB l' ++ s) : eqBy eqStr l l' = true ∧ r = s := by
  simp only [namesB, textsB, List.append_assoc] at h
  obtain ⟨h1, h⟩ := lenB_of h
  exact codes_of (fun a _ => str_code a) h1 h
theorem types_to {l l' : List Y} (h : eqBy Y.same l l' = true) : typesB l = typesB l' := by
  obtain ⟨h1, h2⟩ := codes_to (fun a _ => Y.code a) h
  simp only [typesB, h1, h2]
theorem types_of {l l' : List Y} {r s : List UInt8} (h : typesB l ++ r = typesB l' ++ s) : eqBy Y.same l l' = true ∧ r = s := by
  simp only [typesB, List.append_assoc] at h
  obtain ⟨h1, h⟩ := lenB_of h
  exact codes_of (fun a _ => Y.code a) h1 h
def Fu.mark (f : Fu) : List UInt8 := textB f.name ++ (namesB f.params ++ (namesB f.names ++ (typesB f.types ++ (f.out.mark ++ f.body.mark))))
def Fu.same (f g : Fu) : Bool := decide (f.name = g.name) && (eqBy eqStr f.params g.params && (eqBy eqStr f.names g.names && (eqBy Y.same f.types g.types && (f.out.same g.out && f.body.same g.body))))
theorem Fu.code (f : Fu) : Code Fu.mark Fu.same f := by
  refine ⟨fun g h => ?_, fun g r s h => ?_⟩
  · simp only [Fu.same, Bool.and_eq_true, decide_eq_true_eq] at h
    obtain ⟨h1, h2, h3, h4, h5, h6⟩ := h
    simp only [Fu.mark, h1, names_to h2, names_to h3, types_to h4, f.out.code.to _ h5, f.body.code.to _ h6]
  · simp only [Fu.mark, List.append_assoc] at h
    obtain ⟨h1, h⟩ := textB_of h
    obtain ⟨h2, h⟩ := names_of h
    obtain ⟨h3, h⟩ := names_of h
    obtain ⟨h4, h⟩ := types_of h
    obtain ⟨h5, h⟩ := f.out.code.of _ _ _ h
    obtain ⟨h6, h⟩ := f.body.code.of _ _ _ h
    exact ⟨by simp [Fu.same, h1, h2, h3, h4, h5, h6], h⟩
def funcsB (l : List Fu) : List UInt8 := numB (l.length : Nat) ++ l.flatMap Fu.mark
theorem funcs_to {l l' : List Fu} (h : eqBy Fu.same l l' = true) : funcsB l = funcsB l' := by
  obtain ⟨h1, h2⟩ := codes_to (fun a _ => Fu.code a) h
  simp only [funcsB, h1, h2]
theorem funcs_of {l l' : List Fu} {r s : List UInt8} (h : funcsB l ++ r = funcsB l' ++ s) : eqBy Fu.same l l' = true ∧ r = s := by
  simp only [funcsB, List.append_assoc] at h
  obtain ⟨h1, h⟩ := lenB_of h
  exact codes_of (fun a _ => Fu.code a) h1 h
def Us.mark (u : Us) : List UInt8 := textB u.name ++ (numB u.low ++ numB u.high)
def Us.same (u v : Us) : Bool := decide (u.name = v.name) && (decide (u.low = v.low) && decide (u.high = v.high))
theorem Us.code (u : Us) : Code Us.mark Us.same u := by
  refine ⟨fun g h => ?_, fun g r s h => ?_⟩
  · simp only [Us.same, Bool.and_eq_true, decide_eq_true_eq] at h
    obtain ⟨h1, h2, h3⟩ := h
    simp only [Us.mark, h1, h2, h3]
  · simp only [Us.mark, List.append_assoc] at h
    obtain ⟨h1, h⟩ := textB_of h
    obtain ⟨h2, h⟩ := numB_of h
    obtain ⟨h3, h⟩ := numB_of h
    exact ⟨by simp [Us.same, h1, h2, h3], h⟩
def Mk.mark (m : Mk) : List UInt8 := textB m.name ++ typesB m.args
def Mk.same (m n : Mk) : Bool := decide (m.name = n.name) && eqBy Y.same m.args n.args
theorem Mk.code (m : Mk) : Code Mk.mark Mk.same m := by
  refine ⟨fun g h => ?_, fun g r s h => ?_⟩
  · simp only [Mk.same, Bool.and_eq_true, decide_eq_true_eq] at h
    simp only [Mk.mark, h.1, types_to h.2]
  · simp only [Mk.mark, List.append_assoc] at h
    obtain ⟨h1, h⟩ := textB_of h
    obtain ⟨h2, h⟩ := types_of h
    exact ⟨by simp [Mk.same, h1, h2], h⟩
def Da.mark (d : Da) : List UInt8 := textB d.name ++ (numB (d.makes.length : Nat) ++ (namesB d.params ++ d.makes.flatMap Mk.mark))
def Da.same (d e : Da) : Bool := decide (d.name = e.name) && (eqBy eqStr d.params e.params && eqBy Mk.same d.makes e.makes)
theorem Da.code (d : Da) : Code Da.mark Da.same d := by
  refine ⟨fun g h => ?_, fun g r s h => ?_⟩
  · simp only [Da.same, Bool.and_eq_true, decide_eq_true_eq] at h
    obtain ⟨g1, g2⟩ := codes_to (fun a _ => Mk.code a) h.2.2
    simp only [Da.mark, h.1, names_to h.2.1, g1, g2]
  · simp only [Da.mark, List.append_assoc] at h
    obtain ⟨h1, h⟩ := textB_of h
    obtain ⟨h2, h⟩ := lenB_of h
    obtain ⟨h3, h⟩ := names_of h
    obtain ⟨h4, h⟩ := codes_of (fun a _ => Mk.code a) h2 h
    exact ⟨by simp [Da.same, h1, h3, h4], h⟩
def Tr.mark (t : Tr) : List UInt8 := textB t.name ++ funcsB t.funcs
def Tr.same (t u : Tr) : Bool := decide (t.name = u.name) && eqBy Fu.same t.funcs u.funcs
theorem Tr.code (t : Tr) : Code Tr.mark Tr.same t := by
  refine ⟨fun g h => ?_, fun g r s h => ?_⟩
  · simp only [Tr.same, Bool.and_eq_true, decide_eq_true_eq] at h
    simp only [Tr.mark, h.1, funcs_to h.2]
  · simp only [Tr.mark, List.append_assoc] at h
    obtain ⟨h1, h⟩ := textB_of h
    obtain ⟨h2, h⟩ := funcs_of h
    exact ⟨by simp [Tr.same, h1, h2], h⟩
def Im.mark (t : Im) : List UInt8 := textB t.trait ++ (textB t.dat ++ funcsB t.funcs)
def Im.same (t u : Im) : Bool := decide (t.trait = u.trait) && (decide (t.dat = u.dat) && eqBy Fu.same t.funcs u.funcs)
theorem Im.code (t : Im) : Code Im.mark Im.same t := by
  refine ⟨fun g h => ?_, fun g r s h => ?_⟩
  · simp only [Im.same, Bool.and_eq_true, decide_eq_true_eq] at h
    simp only [Im.mark, h.1, h.2.1, funcs_to h.2.2]
  · simp only [Im.mark, List.append_assoc] at h
    obtain ⟨h1, h⟩ := textB_of h
    obtain ⟨h2, h⟩ := textB_of h
    obtain ⟨h3, h⟩ := funcs_of h
    exact ⟨by simp [Im.same, h1, h2, h3], h⟩
def Ac.mark (x : Ac) : List UInt8 := textB x.name ++ (namesB x.names ++ (typesB x.types ++ (x.msg.mark ++ x.body.mark)))
def Ac.same (x y : Ac) : Bool := decide (x.name = y.name) && (eqBy eqStr x.names y.names && (eqBy Y.same x.types y.types && (x.msg.same y.msg && x.body.same y.body)))
theorem Ac.code (x : Ac) : Code Ac.mark Ac.same x := by
  refine ⟨fun g h => ?_, fun g r s h => ?_⟩
  · simp only [Ac.same, Bool.and_eq_true, decide_eq_true_eq] at h
    obtain ⟨h1, h3, h4, h5, h6⟩ := h
    simp only [Ac.mark, h1, names_to h3, types_to h4, x.msg.code.to _ h5, x.body.code.to _ h6]
  · simp only [Ac.mark, List.append_assoc] at h
    obtain ⟨h1, h⟩ := textB_of h
    obtain ⟨h3, h⟩ := names_of h
    obtain ⟨h4, h⟩ := types_of h
    obtain ⟨h5, h⟩ := x.msg.code.of _ _ _ h
    obtain ⟨h6, h⟩ := x.body.code.of _ _ _ h
    exact ⟨by simp [Ac.same, h1, h3, h4, h5, h6], h⟩
def Pr.mark (p : Pr) : List UInt8 :=
  textB p.name ++ (numB p.version ++ (numB (p.uses.length : Nat) ++ (numB (p.datas.length : Nat) ++ (numB (p.traits.length : Nat) ++ (numB (p.impls.length : Nat) ++ (numB (p.actors.length : Nat) ++
    (p.uses.flatMap Us.mark ++ (p.datas.flatMap Da.mark ++ (p.traits.flatMap Tr.mark ++ (p.impls.flatMap Im.mark ++ (funcsB p.funcs ++ p.actors.flatMap Ac.mark)))))))))))
def Pr.same (p q : Pr) : Bool :=
  decide (p.name = q.name) && (decide (p.version = q.version) && (eqBy Us.same p.uses q.uses && (eqBy Da.same p.datas q.datas && (eqBy Tr.same p.traits q.traits && (eqBy Im.same p.impls q.impls && (eqBy Fu.same p.funcs q.funcs && eqBy Ac.same p.actors q.actors))))))
theorem Pr.code (p : Pr) : Code Pr.mark Pr.same p := by
  refine ⟨fun g h => ?_, fun g r s h => ?_⟩
  · simp only [Pr.same, Bool.and_eq_true, decide_eq_true_eq] at h
    obtain ⟨h1, h2, h3, h4, h5, h6, h7, h8⟩ := h
    obtain ⟨a1, a2⟩ := codes_to (fun a _ => Us.code a) h3
    obtain ⟨b1, b2⟩ := codes_to (fun a _ => Da.code a) h4
    obtain ⟨c1, c2⟩ := codes_to (fun a _ => Tr.code a) h5
    obtain ⟨d1, d2⟩ := codes_to (fun a _ => Im.code a) h6
    obtain ⟨e1, e2⟩ := codes_to (fun a _ => Ac.code a) h8
    simp only [Pr.mark, h1, h2, a1, a2, b1, b2, c1, c2, d1, d2, e1, e2, funcs_to h7]
  · simp only [Pr.mark, List.append_assoc] at h
    obtain ⟨h1, h⟩ := textB_of h
    obtain ⟨h2, h⟩ := numB_of h
    obtain ⟨l1, h⟩ := lenB_of h
    obtain ⟨l2, h⟩ := lenB_of h
    obtain ⟨l3, h⟩ := lenB_of h
    obtain ⟨l4, h⟩ := lenB_of h
    obtain ⟨l5, h⟩ := lenB_of h
    obtain ⟨h3, h⟩ := codes_of (fun a _ => Us.code a) l1 h
    obtain ⟨h4, h⟩ := codes_of (fun a _ => Da.code a) l2 h
    obtain ⟨h5, h⟩ := codes_of (fun a _ => Tr.code a) l3 h
    obtain ⟨h6, h⟩ := codes_of (fun a _ => Im.code a) l4 h
    obtain ⟨h7, h⟩ := funcs_of h
    obtain ⟨h8, h⟩ := codes_of (fun a _ => Ac.code a) l5 h
    exact ⟨by simp [Pr.same, h1, h2, h3, h4, h5, h6, h7, h8], h⟩
theorem Code.self {α : Type} {enc : α → List UInt8} {eq : α → α → Bool} {a : α} (h : Code enc eq a) : eq a a = true := (h.of a [] [] rfl).1
end Go.Proofs.YtllgibfmddihgaaDoor
namespace Go.Proofs.YtllgibfmddihgaaDoor
open Go.RowKit
theorem take_flat_le {α : Type} (f : α → List UInt8) (l : List α) (k : Nat) : ((l.take k).flatMap f).length ≤ (l.flatMap f).length := by
  have := congrArg (fun r => (List.flatMap f r).length) (List.take_append_drop k l)
  simp only [List.flatMap_append, List.length_append] at this
  omega
theorem mem_flat_le {α : Type} (f : α → List UInt8) {l : List α} {a : α} (h : a ∈ l) : (f a).length ≤ (l.flatMap f).length := by
  obtain ⟨s, t, rfl⟩ := List.append_of_mem h
  simp only [List.flatMap_append, List.flatMap_cons, List.length_append]
  omega
theorem bs_take0 {α : Type} (f : α → List UInt8) (l : List α) (p : List UInt8) : bs (p ++ (l.take 0).flatMap f) = bs p := by simp
set_option maxRecDepth 100000 in
set_option maxHeartbeats 1000000 in
theorem nums_af (l : List Int) (hi : ∀ n ∈ l, inI n) (hb : (numsB l).length ≤ 1099511627776) : AF Tryd.prog 96 [intRow l] (· = .lit (.string (bs (numsB l)))) := by
  refine af_enter tok Tryd.func96 Tryd.ntmps96 Tryd.results96 rfl (by kernel_rfl) rfl rfl fun F hX => ?_
  repeat (first | refine gG ?_ | refine zN1 (fun hlen => ?_) | refine zN2 (fun hlen => ?_))
  refine x_loop [3, 5, 8, 9, 10, 11, 12, 13, 14, 15, 16, 17] (fun k : Nat => [(8, .c (.lit (.int .i64 (k : Nat)))), (3, .c (.lit (.string (bs ((l.take k).flatMap numB)))))]) (fun _ => []) (fun k => k ≤ l.length) (fun k => l.length - k) 0 (Nat.zero_le _) ⟨rfl, rfl, trivial⟩ rfl ?_
  intro k hk
  repeat (first | refine gG ?_ | refine zN1 (fun hlen => ?_) | refine zN2 (fun hlen => ?_))
  refine x_cond rfl (fun h => ?_) (fun h => ?_)
  · have hk' : k < l.length := by simpa using h
    obtain ⟨a, ha⟩ := nth hk'
    have hc := itoa_af a (hi a (List.mem_of_getElem? ha))
    have hsn := flat_snoc' numB ha
    have h1 := take_flat_le numB l k
    have h2 := mem_flat_le numB (List.mem_of_getElem? ha)
    have e2 : numB a = Lib.itoa a ++ [44] := rfl
    have h3 : (numB a).length = (Lib.itoa a).length + 1 := by rw [e2, List.length_append]; rfl
    unfold numsB at hb
    clear h
    repeat (first | refine gG ?_ | refine zN1 (fun hlen => ?_) | refine zN2 (fun hlen => ?_))
    refine zIx k hk' ?_
    repeat (first | refine gG ?_ | refine zN1 (fun hlen => ?_) | refine zN2 (fun hlen => ?_))
    refine zEl1 (v := .lit (.int .i64 a)) (int_at ha) ?_
    repeat (first | refine gG ?_ | refine zN1 (fun hlen => ?_) | refine zN2 (fun hlen => ?_))
    refine zCall (hc) ?_
    rintro _ rfl
    repeat (first | refine gG ?_ | refine zN1 (fun hlen => ?_) | refine zN2 (fun hlen => ?_))
    refine zCatb (Lib.itoa a) [44] (by simp only [List.length_cons, List.length_nil]; omega) ?_
    repeat (first | refine gG ?_ | refine zN1 (fun hlen => ?_) | refine zN2 (fun hlen => ?_))
    refine zCatb ((l.take k).flatMap numB) (numB a) (by omega) ?_
    repeat (first | refine gG ?_ | refine zN1 (fun hlen => ?_) | refine zN2 (fun hlen => ?_))
    exact ⟨k + 1, hk', by omega, x_wkd 0 ⟨rfl, by rw [hsn]; rfl, trivial⟩ rfl (by repeat (first | exact ag_refl | refine ag_upd rfl ?_ | refine ag_at rfl rfl ?_))⟩
  · have hk' : k = l.length := by have : ¬ k < l.length := by simpa using h
                                  omega
    subst hk'
    repeat (first | refine gG ?_ | refine zN1 (fun hlen => ?_) | refine zN2 (fun hlen => ?_))
    first | refine zR ?_ | refine zQ ?_
    rw [List.take_length]
    rfl
theorem num1_af (n : Int) (h : inI n) (hb : (numB n).length ≤ 1099511627776) : AF Tryd.prog 96 [intRow [n]] (· = .lit (.string (bs (numB n)))) := by
  have := nums_af [n] (by simpa using h) (by simpa [numsB] using hb)
  simpa [numsB] using this
theorem inI_nat {n : Nat} (h : n ≤ 9223372036854775807) : inI (n : Int) := by unfold inI; omega
set_option maxRecDepth 100000 in
set_option maxHeartbeats 1000000 in
theorem texts_af (l : List ByteArray) (hb : (textsB l).length ≤ 1099511627776) : AF Tryd.prog 95 [strRow l] (· = .lit (.string (bs (textsB l)))) := by
  refine af_enter tok Tryd.func95 Tryd.ntmps95 Tryd.results95 rfl (by kernel_rfl) rfl rfl fun F hX => ?_
  repeat (first | refine gG ?_ | refine zN1 (fun hlen => ?_) | refine zN2 (fun hlen => ?_))
  refine x_loop [3, 5, 8, 9, 10, 11, 12, 13, 14, 15, 16, 17, 18, 19, 20] (fun k : Nat => [(8, .c (.lit (.int .i64 (k : Nat)))), (3, .c (.lit (.string (bs ((l.take k).flatMap textB)))))]) (fun _ => []) (fun k => k ≤ l.length) (fun k => l.length - k) 0 (Nat.zero_le _) ⟨rfl, rfl, trivial⟩ rfl ?_
  intro k hk
  repeat (first | refine gG ?_ | refine zN1 (fun hlen => ?_) | refine zN2 (fun hlen => ?_))
  refine x_cond rfl (fun h => ?_) (fun h => ?_)
  · have hk' : k < l.length := by simpa using h
    obtain ⟨a, ha⟩ := nth hk'
    have hsn := flat_snoc' textB ha
    have h1 := take_flat_le textB l k
    have h2 := mem_flat_le textB (List.mem_of_getElem? ha)
    have e2 : textB a = numB (a.size : Nat) ++ a.data.toList := rfl
    have h3 : (textB a).length = (numB (a.size : Nat)).length + a.size := by rw [e2, List.length_append]; rfl
    have hst : (l.flatMap strTs)[k * 1]? = some (.lit (.string a)) := by rw [Nat.mul_one]; exact str_at ha
    unfold textsB at hb
    have hc := num1_af (a.size : Nat) (inI_nat (by omega)) (by omega)
    clear h
    repeat (first | refine gG ?_ | refine zN1 (fun hlen => ?_) | refine zN2 (fun hlen => ?_))
    refine zIx k hk' ?_
    repeat (first | refine gG ?_ | refine zN1 (fun hlen => ?_) | refine zN2 (fun hlen => ?_))
    refine zEl1 (v := .lit (.string a)) hst ?_
    repeat (first | refine gG ?_ | refine zN1 (fun hlen => ?_) | refine zN2 (fun hlen => ?_))
    refine zCall (hc) ?_
    rintro _ rfl
    repeat (first | refine gG ?_ | refine zN1 (fun hlen => ?_) | refine zN2 (fun hlen => ?_))
    refine zCatb (numB (a.size : Nat)) a.data.toList (by have : a.data.toList.length = a.size := rfl; omega) ?_
    repeat (first | refine gG ?_ | refine zN1 (fun hlen => ?_) | refine zN2 (fun hlen => ?_))
    refine zCatb ((l.take k).flatMap textB) (textB a) (by omega) ?_
    repeat (first | refine gG ?_ | refine zN1 (fun hlen => ?_) | refine zN2 (fun hlen => ?_))
    exact ⟨k + 1, hk', by omega, x_wkd 0 ⟨rfl, by rw [hsn]; rfl, trivial⟩ rfl (by repeat (first | exact ag_refl | refine ag_upd rfl ?_ | refine ag_at rfl rfl ?_))⟩
  · have hk' : k = l.length := by have : ¬ k < l.length := by simpa using h
                                  omega
    subst hk'
    repeat (first | refine gG ?_ | refine zN1 (fun hlen => ?_) | refine zN2 (fun hlen => ?_))
    first | refine zR ?_ | refine zQ ?_
    rw [List.take_length]
    rfl
end Go.Proofs.YtllgibfmddihgaaDoor
namespace Go.Proofs.YtllgibfmddihgaaDoor
open Go.RowKit
theorem len_flat_le {α : Type} (f : α → List UInt8) (h : ∀ a, 1 ≤ (f a).length) : ∀ l : List α, l.length ≤ (l.flatMap f).length
  | [] => by simp
  | a :: l => by
    have := h a
    have := len_flat_le f h l
    simp only [List.flatMap_cons, List.length_append, List.length_cons]
    omega
theorem numB_pos (n : Int) : 1 ≤ (numB n).length := by simp [numB]
theorem textB_pos (s : ByteArray) : 1 ≤ (textB s).length := by have := numB_pos (s.size : Nat); simp only [textB, List.length_append]; omega
theorem Y.mark_pos : ∀ y : Y, 1 ≤ y.mark.length
  | .mk k n l => by have := numB_pos k; simp only [Y.mark, List.length_append]; omega
theorem V.mark_pos : ∀ y : V, 1 ≤ y.mark.length
  | .mk k n t l => by have := numB_pos k; simp only [V.mark, List.length_append]; omega
theorem Ex.mark_pos : ∀ y : Ex, 1 ≤ y.mark.length
  | .mk k n t ns ys l rs a => by have := numB_pos k; simp only [Ex.mark, List.length_append]; omega
theorem Ar.mark_pos : ∀ y : Ar, 1 ≤ y.mark.length
  | .mk p b => by have := p.mark_pos; simp only [Ar.mark, List.length_append]; omega
set_option maxRecDepth 100000 in
set_option maxHeartbeats 4000000 in
theorem typeMark_af (y : Y) : y.ok → y.mark.length ≤ 1099511627776 → AF Tryd.prog 34 [y.t] (· = .lit (.string (bs y.mark))) := by
  induction y using Y.ind with
  | h k n l ih =>
    intro hok hb
    simp only [Y.ok, Y.oks_iff] at hok
    have hm : (Y.mk k n l).mark = numsB [k, (l.length : Nat)] ++ textsB [n] ++ l.flatMap Y.mark := by simp [Y.mark, Y.marks_eq, numsB, textsB, List.append_assoc]
    rw [hm] at hb ⊢
    simp only [List.length_append] at hb
    have hll := len_flat_le Y.mark Y.mark_pos l
    have hN := nums_af [k, (l.length : Nat)] (List.forall_mem_cons.2 ⟨hok.1, (List.forall_mem_cons.2 ⟨inI_nat (by omega), (fun _ h => by simp at h)⟩)⟩) (by omega)
    have hT := texts_af [n] (by omega)
    have hC : ∀ a ∈ l, AF Tryd.prog 34 [a.t] (· = .lit (.string (bs a.mark))) := fun a ha => ih a ha (hok.2 a ha) (by have := mem_flat_le Y.mark ha; omega)
    clear hm hok ih hll
    generalize numsB [k, (l.length : Nat)] = p1 at *
    generalize textsB [n] = p2 at *
    refine af_enter tok Tryd.func34 Tryd.ntmps34 Tryd.results34 rfl (by kernel_rfl) rfl rfl fun F hX => ?_
    repeat (first | refine gG ?_ | refine zN1 (fun hlen => ?_) | refine zN2 (fun hlen => ?_) | refine zAl (fun _ => ?_) | refine zBf ?_)
    refine ac_draw [1, 1, 1, 1, 1, 1, 1, 1, 1, 1, 1, 1, 1] [0, 1, 2, 3, 4, 5, 6, 7, 8, 9, 10, 11, 12] (by kernel_rfl) (by kernel_rfl) ?_
    refine gW ?_
    apply w_q; (focus exact rfl); (focus exact rfl); focus (intro _; (refine lo_call hN rfl (by repeat (first | exact rzs_nil | apply rzs_cons | exact rz_c | exact rz_nil rfl | apply rz_agg | exact rz_own rfl | apply rz_fn | exact rz_ptr rfl | apply rz_tup)) ?_; rintro _ rfl); exact det_refl)
    refine gW ?_
    apply w_q; (focus exact rfl); (focus exact rfl); focus (intro _; (refine lo_call hT rfl (by repeat (first | exact rzs_nil | apply rzs_cons | exact rz_c | exact rz_nil rfl | apply rz_agg | exact rz_own rfl | apply rz_fn | exact rz_ptr rfl | apply rz_tup)) ?_; rintro _ rfl); exact det_refl)
    apply w_q; (focus exact rfl); (focus exact rfl); focus (intro _; (refine zCatb p1 p2 (by omega) ?_); exact det_refl)
    refine gW ?_
    refine w_nil ?_
    repeat (first | refine gG ?_ | refine zN1 (fun hlen => ?_) | refine zN2 (fun hlen => ?_) | refine zAl (fun _ => ?_) | refine zBf ?_)
    refine x_loop [3, 5, 21, 22, 23, 24, 25, 26, 27, 28, 29] (fun k : Nat => [(21, .c (.lit (.int .i64 (k : Nat)))), (3, .c (.lit (.string (bs (p1 ++ p2 ++ (l.take k).flatMap Y.mark)))))]) (fun _ => []) (fun k => k ≤ l.length) (fun k => l.length - k) 0 (Nat.zero_le _) ⟨rfl, congrArg (fun s => AV.c (.lit (.string s))) (bs_take0 Y.mark l (p1 ++ p2)).symm, trivial⟩ rfl ?_
    intro k hk
    repeat (first | refine gG ?_ | refine zN1 (fun hlen => ?_) | refine zN2 (fun hlen => ?_) | refine zAl (fun _ => ?_) | refine zBf ?_)
    refine x_cond rfl (fun h => ?_) (fun h => ?_)
    · have hk' : k < l.length := by simpa using h
      obtain ⟨a, ha⟩ := nth hk'
      have hc := hC a (List.mem_of_getElem? ha)
      have hsn := flat_snoc' Y.mark ha
      have h1 := take_flat_le Y.mark l k
      have h2 := mem_flat_le Y.mark (List.mem_of_getElem? ha)
      clear h
      repeat (first | refine gG ?_ | refine zN1 (fun hlen => ?_) | refine zN2 (fun hlen => ?_) | refine zAl (fun _ => ?_) | refine zBf ?_)
      refine zIx (k) (hk') ?_
      repeat (first | refine gG ?_ | refine zN1 (fun hlen => ?_) | refine zN2 (fun hlen => ?_) | refine zAl (fun _ => ?_) | refine zBx (fun _ => ?_))
      refine zEl (Y.at ha) (Y.ts_len a) ?_
      generalize Y.mark a = ma at *
      obtain ⟨ka, na, la⟩ := a
      repeat (first | refine gG ?_ | refine zN1 (fun hlen => ?_) | refine zN2 (fun hlen => ?_) | refine zAl (fun _ => ?_) | refine zBf ?_)
      refine zCall (hc) ?_
      rintro _ rfl
      repeat (first | refine gG ?_ | refine zN1 (fun hlen => ?_) | refine zN2 (fun hlen => ?_) | refine zAl (fun _ => ?_) | refine zBf ?_)
      refine zCatb (p1 ++ p2 ++ (l.take k).flatMap Y.mark) ma (by simp only [List.length_append]; omega) ?_
      repeat (first | refine gG ?_ | refine zN1 (fun hlen => ?_) | refine zN2 (fun hlen => ?_) | refine zAl (fun _ => ?_) | refine zBf ?_)
      exact ⟨k + 1, hk', by omega, x_wkd 0 ⟨rfl, by rw [hsn, ← List.append_assoc]; rfl, trivial⟩ rfl (by repeat (first | exact ag_refl | refine ag_upd rfl ?_ | refine ag_at rfl rfl ?_))⟩
    · have hk' : k = l.length := by
        have : ¬ k < l.length := by simpa using h
        omega
      subst hk'
      rw [List.take_length]
      clear h
      repeat (first | refine gG ?_ | refine zN1 (fun hlen => ?_) | refine zN2 (fun hlen => ?_) | refine zAl (fun _ => ?_) | refine zBf ?_)
      first | refine zR ?_ | refine zQ ?_
      rfl
set_option maxRecDepth 100000 in
set_option maxHeartbeats 4000000 in
theorem patMark_af (v : V) : v.ok → v.mark.length ≤ 1099511627776 → AF Tryd.prog 100 [v.t] (· = .lit (.string (bs v.mark))) := by
  induction v using V.ind with
  | h k n t l ih =>
    intro hok hb
    simp only [V.ok, V.oks_iff] at hok
    have hm : (V.mk k n t l).mark = numsB [k, n, (l.length : Nat)] ++ textsB [t] ++ l.flatMap V.mark := by simp [V.mark, V.marks_eq, numsB, textsB, List.append_assoc]
    rw [hm] at hb ⊢
    simp only [List.length_append] at hb
    have hll := len_flat_le V.mark V.mark_pos l
    have hN := nums_af [k, n, (l.length : Nat)] (List.forall_mem_cons.2 ⟨hok.1, (List.forall_mem_cons.2 ⟨hok.2.1, (List.forall_mem_cons.2 ⟨inI_nat (by omega), (fun _ h => by simp at h)⟩)⟩)⟩) (by omega)
    have hT := texts_af [t] (by omega)
    have hC : ∀ a ∈ l, AF Tryd.prog 100 [a.t] (· = .lit (.string (bs a.mark))) := fun a ha => ih a ha (hok.2.2 a ha) (by have := mem_flat_le V.mark ha; omega)
    clear hm hok ih hll
    generalize numsB [k, n, (l.length : Nat)] = p1 at *
    generalize textsB [t] = p2 at *
    refine af_enter tok Tryd.func100 Tryd.ntmps100 Tryd.results100 rfl (by kernel_rfl) rfl rfl fun F hX => ?_
    repeat (first | refine gG ?_ | refine zN1 (fun hlen => ?_) | refine zN2 (fun hlen => ?_) | refine zAl (fun _ => ?_) | refine zBf ?_)
    refine ac_draw [1, 1, 1, 1, 1, 1, 1, 1, 1, 1, 1, 1, 1, 1, 1] [0, 1, 2, 3, 4, 5, 6, 7, 8, 9, 10, 11, 12, 13, 14] (by kernel_rfl) (by kernel_rfl) ?_
    refine gW ?_
    apply w_q; (focus exact rfl); (focus exact rfl); focus (intro _; (refine lo_call hN rfl (by repeat (first | exact rzs_nil | apply rzs_cons | exact rz_c | exact rz_nil rfl | apply rz_agg | exact rz_own rfl | apply rz_fn | exact rz_ptr rfl | apply rz_tup)) ?_; rintro _ rfl); exact det_refl)
    refine gW ?_
    apply w_q; (focus exact rfl); (focus exact rfl); focus (intro _; (refine lo_call hT rfl (by repeat (first | exact rzs_nil | apply rzs_cons | exact rz_c | exact rz_nil rfl | apply rz_agg | exact rz_own rfl | apply rz_fn | exact rz_ptr rfl | apply rz_tup)) ?_; rintro _ rfl); exact det_refl)
    apply w_q; (focus exact rfl); (focus exact rfl); focus (intro _; (refine zCatb p1 p2 (by omega) ?_); exact det_refl)
    refine gW ?_
    refine w_nil ?_
    repeat (first | refine gG ?_ | refine zN1 (fun hlen => ?_) | refine zN2 (fun hlen => ?_) | refine zAl (fun _ => ?_) | refine zBf ?_)
    refine x_loop [3, 5, 23, 24, 25, 26, 27, 28, 29, 30, 31] (fun k : Nat => [(23, .c (.lit (.int .i64 (k : Nat)))), (3, .c (.lit (.string (bs (p1 ++ p2 ++ (l.take k).flatMap V.mark)))))]) (fun _ => []) (fun k => k ≤ l.length) (fun k => l.length - k) 0 (Nat.zero_le _) ⟨rfl, congrArg (fun s => AV.c (.lit (.string s))) (bs_take0 V.mark l (p1 ++ p2)).symm, trivial⟩ rfl ?_
    intro k hk
    repeat (first | refine gG ?_ | refine zN1 (fun hlen => ?_) | refine zN2 (fun hlen => ?_) | refine zAl (fun _ => ?_) | refine zBf ?_)
    refine x_cond rfl (fun h => ?_) (fun h => ?_)
    · have hk' : k < l.length := by simpa using h
      obtain ⟨a, ha⟩ := nth hk'
      have hc := hC a (List.mem_of_getElem? ha)
      have hsn := flat_snoc' V.mark ha
      have h1 := take_flat_le V.mark l k
      have h2 := mem_flat_le V.mark (List.mem_of_getElem? ha)
      clear h
      repeat (first | refine gG ?_ | refine zN1 (fun hlen => ?_) | refine zN2 (fun hlen => ?_) | refine zAl (fun _ => ?_) | refine zBf ?_)
      refine zIx (k) (hk') ?_
      repeat (first | refine gG ?_ | refine zN1 (fun hlen => ?_) | refine zN2 (fun hlen => ?_) | refine zAl (fun _ => ?_) | refine zBx (fun _ => ?_))
      refine zEl (V.at ha) (V.ts_len a) ?_
      generalize V.mark a = ma at *
      obtain ⟨ka, na, ta, la⟩ := a
      repeat (first | refine gG ?_ | refine zN1 (fun hlen => ?_) | refine zN2 (fun hlen => ?_) | refine zAl (fun _ => ?_) | refine zBf ?_)
      refine zCall (hc) ?_
      rintro _ rfl
      repeat (first | refine gG ?_ | refine zN1 (fun hlen => ?_) | refine zN2 (fun hlen => ?_) | refine zAl (fun _ => ?_) | refine zBf ?_)
      refine zCatb (p1 ++ p2 ++ (l.take k).flatMap V.mark) ma (by simp only [List.length_append]; omega) ?_
      repeat (first | refine gG ?_ | refine zN1 (fun hlen => ?_) | refine zN2 (fun hlen => ?_) | refine zAl (fun _ => ?_) | refine zBf ?_)
      exact ⟨k + 1, hk', by omega, x_wkd 0 ⟨rfl, by rw [hsn, ← List.append_assoc]; rfl, trivial⟩ rfl (by repeat (first | exact ag_refl | refine ag_upd rfl ?_ | refine ag_at rfl rfl ?_))⟩
    · have hk' : k = l.length := by
        have : ¬ k < l.length := by simpa using h
        omega
      subst hk'
      rw [List.take_length]
      clear h
      repeat (first | refine gG ?_ | refine zN1 (fun hlen => ?_) | refine zN2 (fun hlen => ?_) | refine zAl (fun _ => ?_) | refine zBf ?_)
      first | refine zR ?_ | refine zQ ?_
      rfl
end Go.Proofs.YtllgibfmddihgaaDoor
namespace Go.Proofs.YtllgibfmddihgaaDoor
open Go.RowKit
set_option maxRecDepth 100000 in
set_option maxHeartbeats 4000000 in
theorem exprMark_af (e : Ex) : e.ok → e.mark.length ≤ 1099511627776 → AF Tryd.prog 14 [e.t] (· = .lit (.string (bs e.mark))) := by
  induction e using Ex.ind with
  | h kd n t ns ys l rs pos ih ihr =>
    intro hok hb
    simp only [Ex.ok, Y.oks_iff, Ex.oks_iff, Ar.oks_iff] at hok
    obtain ⟨o1, o2, o3, o4, o5, o6⟩ := hok
    have hm : (Ex.mk kd n t ns ys l rs pos).mark = numsB [kd, n, (ns.length : Nat), (ys.length : Nat), (l.length : Nat), (rs.length : Nat)] ++ textsB [t] ++ textsB ns ++ ys.flatMap Y.mark ++ l.flatMap Ex.mark ++ rs.flatMap Ar.mark := by simp [Ex.mark, Ex.marks_eq, Ar.marks_eq, numsB, textsB, List.append_assoc]
    rw [hm] at hb ⊢
    simp only [List.length_append] at hb
    have hl1 := len_flat_le textB textB_pos ns
    have hl2 := len_flat_le Y.mark Y.mark_pos ys
    have hl3 := len_flat_le Ex.mark Ex.mark_pos l
    have hl4 := len_flat_le Ar.mark Ar.mark_pos rs
    have ht : (ns.flatMap textB).length = (textsB ns).length := rfl
    have hN := nums_af [kd, n, (ns.length : Nat), (ys.length : Nat), (l.length : Nat), (rs.length : Nat)] (List.forall_mem_cons.2 ⟨o1, (List.forall_mem_cons.2 ⟨o2, (List.forall_mem_cons.2 ⟨inI_nat (by omega), (List.forall_mem_cons.2 ⟨inI_nat (by omega), (List.forall_mem_cons.2 ⟨inI_nat (by omega), (List.forall_mem_cons.2 ⟨inI_nat (by omega), (fun _ h => by simp at h)⟩)⟩)⟩)⟩)⟩)⟩) (by omega)
    have hT := texts_af [t] (by omega)
    have hT2 := texts_af ns (by omega)
    have hC1 : ∀ a ∈ ys, AF Tryd.prog 34 [a.t] (· = .lit (.string (bs a.mark))) := fun a ha => typeMark_af a (o3 a ha) (by have := mem_flat_le Y.mark ha; omega)
    have hC2 : ∀ a ∈ l, AF Tryd.prog 14 [a.t] (· = .lit (.string (bs a.mark))) := fun a ha => ih a ha (o4 a ha) (by have := mem_flat_le Ex.mark ha; omega)
    have hC3 : ∀ (p : V) (b : Ex), Ar.mk p b ∈ rs → AF Tryd.prog 100 [p.t] (· = .lit (.string (bs p.mark))) ∧ AF Tryd.prog 14 [b.t] (· = .lit (.string (bs b.mark))) := fun p b hp => by
      have h1 := mem_flat_le Ar.mark hp
      have h2 : (Ar.mk p b).mark = p.mark ++ b.mark := by rw [Ar.mark]
      rw [h2, List.length_append] at h1
      have h3 := o5 _ hp
      simp only [Ar.ok] at h3
      exact ⟨patMark_af p h3.1 (by omega), ihr _ hp p b rfl h3.2 (by omega)⟩
    clear hm ih ihr hl1 hl2 hl3 hl4 ht o1 o2 o3 o4 o5 o6
    generalize numsB [kd, n, (ns.length : Nat), (ys.length : Nat), (l.length : Nat), (rs.length : Nat)] = p1 at *
    generalize textsB [t] = p2 at *
    generalize textsB ns = p3 at *
    refine af_enter tok Tryd.func14 Tryd.ntmps14 Tryd.results14 rfl (by kernel_rfl) rfl rfl fun F hX => ?_
    repeat (first | refine gG ?_ | refine zN1 (fun hlen => ?_) | refine zN2 (fun hlen => ?_) | refine zAl (fun _ => ?_) | refine zBf ?_)
    refine ac_draw [1, 1, 1, 1, 1, 1, 1, 1, 1, 1, 1, 1, 1, 1, 1, 1, 1, 1, 1, 1, 1, 1, 1, 1, 1, 1, 1, 1] [0, 1, 2, 3, 4, 5, 6, 7, 8, 9, 10, 11, 12, 13, 14, 15, 16, 17, 18, 19, 20, 21, 22, 23, 24, 25, 26, 27] (by kernel_rfl) (by kernel_rfl) ?_
    refine gW ?_
    apply w_q; (focus exact rfl); (focus exact rfl); focus (intro _; (refine lo_call hN rfl (by repeat (first | exact rzs_nil | apply rzs_cons | exact rz_c | exact rz_nil rfl | apply rz_agg | exact rz_own rfl | apply rz_fn | exact rz_ptr rfl | apply rz_tup)) ?_; rintro _ rfl); exact det_refl)
    refine gW ?_
    apply w_q; (focus exact rfl); (focus exact rfl); focus (intro _; (refine lo_call hT rfl (by repeat (first | exact rzs_nil | apply rzs_cons | exact rz_c | exact rz_nil rfl | apply rz_agg | exact rz_own rfl | apply rz_fn | exact rz_ptr rfl | apply rz_tup)) ?_; rintro _ rfl); exact det_refl)
    apply w_q; (focus exact rfl); (focus exact rfl); focus (intro _; (refine zCatb p1 p2 (by omega) ?_); exact det_refl)
    refine gW ?_
    apply w_q; (focus exact rfl); (focus exact rfl); focus (intro _; (refine lo_call hT2 rfl (by repeat (first | exact rzs_nil | apply rzs_cons | exact rz_c | exact rz_nil rfl | apply rz_agg | exact rz_own rfl | apply rz_fn | exact rz_ptr rfl | apply rz_tup)) ?_; rintro _ rfl); exact det_refl)
    apply w_q; (focus exact rfl); (focus exact rfl); focus (intro _; (refine zCatb (p1 ++ p2) p3 (by simp only [List.length_append]; omega) ?_); exact det_refl)
    refine gW ?_
    refine w_nil ?_
    repeat (first | refine gG ?_ | refine zN1 (fun hlen => ?_) | refine zN2 (fun hlen => ?_) | refine zAl (fun _ => ?_) | refine zBf ?_)
    refine x_loop [3, 5, 40, 41, 42, 43, 44, 45, 46, 47, 48] (fun k : Nat => [(40, .c (.lit (.int .i64 (k : Nat)))), (3, .c (.lit (.string (bs (p1 ++ p2 ++ p3 ++ (ys.take k).flatMap Y.mark)))))]) (fun _ => []) (fun k => k ≤ ys.length) (fun k => ys.length - k) 0 (Nat.zero_le _) ⟨rfl, congrArg (fun s => AV.c (.lit (.string s))) (bs_take0 Y.mark ys (p1 ++ p2 ++ p3)).symm, trivial⟩ rfl ?_
    intro k hk
    repeat (first | refine gG ?_ | refine zN1 (fun hlen => ?_) | refine zN2 (fun hlen => ?_) | refine zAl (fun _ => ?_) | refine zBf ?_)
    refine x_cond rfl (fun h => ?_) (fun h => ?_)
    · have hk' : k < ys.length := by simpa using h
      obtain ⟨a, ha⟩ := nth hk'
      have hc := hC1 a (List.mem_of_getElem? ha)
      have hsn := flat_snoc' Y.mark ha
      have h1 := take_flat_le Y.mark ys k
      have h2 := mem_flat_le Y.mark (List.mem_of_getElem? ha)
      clear h
      repeat (first | refine gG ?_ | refine zN1 (fun hlen => ?_) | refine zN2 (fun hlen => ?_) | refine zAl (fun _ => ?_) | refine zBf ?_)
      refine zIx (k) (hk') ?_
      repeat (first | refine gG ?_ | refine zN1 (fun hlen => ?_) | refine zN2 (fun hlen => ?_) | refine zAl (fun _ => ?_) | refine zBx (fun _ => ?_))
      refine zEl (Y.at ha) (Y.ts_len a) ?_
      generalize Y.mark a = ma at *
      obtain ⟨ka, na, la⟩ := a
      repeat (first | refine gG ?_ | refine zN1 (fun hlen => ?_) | refine zN2 (fun hlen => ?_) | refine zAl (fun _ => ?_) | refine zBf ?_)
      refine zCall (hc) ?_
      rintro _ rfl
      repeat (first | refine gG ?_ | refine zN1 (fun hlen => ?_) | refine zN2 (fun hlen => ?_) | refine zAl (fun _ => ?_) | refine zBf ?_)
      refine zCatb (p1 ++ p2 ++ p3 ++ (ys.take k).flatMap Y.mark) ma (by simp only [List.length_append]; omega) ?_
      repeat (first | refine gG ?_ | refine zN1 (fun hlen => ?_) | refine zN2 (fun hlen => ?_) | refine zAl (fun _ => ?_) | refine zBf ?_)
      exact ⟨k + 1, hk', by omega, x_wkd 0 ⟨rfl, by rw [hsn, ← List.append_assoc]; rfl, trivial⟩ rfl (by repeat (first | exact ag_refl | refine ag_upd rfl ?_ | refine ag_at rfl rfl ?_))⟩
    · have hk' : k = ys.length := by
        have : ¬ k < ys.length := by simpa using h
        omega
      subst hk'
      rw [List.take_length]
      clear h
      repeat (first | refine gG ?_ | refine zN1 (fun hlen => ?_) | refine zN2 (fun hlen => ?_) | refine zAl (fun _ => ?_) | refine zBf ?_)
      refine x_loop [3, 7, 52, 53, 54, 55, 56, 57, 58, 59, 60] (fun k : Nat => [(52, .c (.lit (.int .i64 (k : Nat)))), (3, .c (.lit (.string (bs (p1 ++ p2 ++ p3 ++ ys.flatMap Y.mark ++ (l.take k).flatMap Ex.mark)))))]) (fun _ => []) (fun k => k ≤ l.length) (fun k => l.length - k) 0 (Nat.zero_le _) ⟨rfl, congrArg (fun s => AV.c (.lit (.string s))) (bs_take0 Ex.mark l (p1 ++ p2 ++ p3 ++ ys.flatMap Y.mark)).symm, trivial⟩ rfl ?_
      intro k hk
      repeat (first | refine gG ?_ | refine zN1 (fun hlen => ?_) | refine zN2 (fun hlen => ?_) | refine zAl (fun _ => ?_) | refine zBf ?_)
      refine x_cond rfl (fun h => ?_) (fun h => ?_)
      · have hk' : k < l.length := by simpa using h
        obtain ⟨a, ha⟩ := nth hk'
        have hc := hC2 a (List.mem_of_getElem? ha)
        have hsn := flat_snoc' Ex.mark ha
        have h1 := take_flat_le Ex.mark l k
        have h2 := mem_flat_le Ex.mark (List.mem_of_getElem? ha)
        clear h
        repeat (first | refine gG ?_ | refine zN1 (fun hlen => ?_) | refine zN2 (fun hlen => ?_) | refine zAl (fun _ => ?_) | refine zBf ?_)
        refine zIx (k) (hk') ?_
        repeat (first | refine gG ?_ | refine zN1 (fun hlen => ?_) | refine zN2 (fun hlen => ?_) | refine zAl (fun _ => ?_) | refine zBx (fun _ => ?_))
        refine zEl (Ex.at ha) (Ex.ts_len a) ?_
        generalize Ex.mark a = ma at *
        obtain ⟨ka, na, ta, nsa, ysa, la, rsa, pa⟩ := a
        repeat (first | refine gG ?_ | refine zN1 (fun hlen => ?_) | refine zN2 (fun hlen => ?_) | refine zAl (fun _ => ?_) | refine zBf ?_)
        refine zCall (hc) ?_
        rintro _ rfl
        repeat (first | refine gG ?_ | refine zN1 (fun hlen => ?_) | refine zN2 (fun hlen => ?_) | refine zAl (fun _ => ?_) | refine zBf ?_)
        refine zCatb (p1 ++ p2 ++ p3 ++ ys.flatMap Y.mark ++ (l.take k).flatMap Ex.mark) ma (by simp only [List.length_append]; omega) ?_
        repeat (first | refine gG ?_ | refine zN1 (fun hlen => ?_) | refine zN2 (fun hlen => ?_) | refine zAl (fun _ => ?_) | refine zBf ?_)
        exact ⟨k + 1, hk', by omega, x_wkd 0 ⟨rfl, by rw [hsn, ← List.append_assoc]; rfl, trivial⟩ rfl (by repeat (first | exact ag_refl | refine ag_upd rfl ?_ | refine ag_at rfl rfl ?_))⟩
      · have hk' : k = l.length := by
          have : ¬ k < l.length := by simpa using h
          omega
        subst hk'
        rw [List.take_length]
        clear h
        repeat (first | refine gG ?_ | refine zN1 (fun hlen => ?_) | refine zN2 (fun hlen => ?_) | refine zAl (fun _ => ?_) | refine zBf ?_)
        refine x_loop [3, 9, 64, 65, 66, 67, 68, 69, 70, 71, 72, 73, 74, 75, 76, 77] (fun k : Nat => [(64, .c (.lit (.int .i64 (k : Nat)))), (3, .c (.lit (.string (bs (p1 ++ p2 ++ p3 ++ ys.flatMap Y.mark ++ l.flatMap Ex.mark ++ (rs.take k).flatMap Ar.mark)))))]) (fun _ => []) (fun k => k ≤ rs.length) (fun k => rs.length - k) 0 (Nat.zero_le _) ⟨rfl, congrArg (fun s => AV.c (.lit (.string s))) (bs_take0 Ar.mark rs (p1 ++ p2 ++ p3 ++ ys.flatMap Y.mark ++ l.flatMap Ex.mark)).symm, trivial⟩ rfl ?_
        intro k hk
        repeat (first | refine gG ?_ | refine zN1 (fun hlen => ?_) | refine zN2 (fun hlen => ?_) | refine zAl (fun _ => ?_) | refine zBf ?_)
        refine x_cond rfl (fun h => ?_) (fun h => ?_)
        · have hk' : k < rs.length := by simpa using h
          obtain ⟨a, ha⟩ := nth hk'
          have hmem := List.mem_of_getElem? ha
          have hsn := flat_snoc' Ar.mark ha
          have h1 := take_flat_le Ar.mark rs k
          have h2 := mem_flat_le Ar.mark hmem
          clear h
          repeat (first | refine gG ?_ | refine zN1 (fun hlen => ?_) | refine zN2 (fun hlen => ?_) | refine zAl (fun _ => ?_) | refine zBf ?_)
          refine zIx (k) (hk') ?_
          repeat (first | refine gG ?_ | refine zN1 (fun hlen => ?_) | refine zN2 (fun hlen => ?_) | refine zAl (fun _ => ?_) | refine zBx (fun _ => ?_))
          refine zEl (Ar.at ha) (Ar.ts_len a) ?_
          obtain ⟨pt, bd⟩ := a
          have hE : Ar.mark (.mk pt bd) = pt.mark ++ bd.mark := by rw [Ar.mark]
          rw [hE] at hsn h2
          simp only [List.length_append] at h2
          have c_q1 := (hC3 pt bd hmem).1
          have c_q2 := (hC3 pt bd hmem).2
          clear hE hmem ha
          generalize pt.mark = q1 at *
          generalize bd.mark = q2 at *
          obtain ⟨kp, np, tp, lp⟩ := pt
          obtain ⟨ka, na, ta, nsa, ysa, la, rsa, pa⟩ := bd
          have hfin : (p1 ++ p2 ++ p3 ++ ys.flatMap Y.mark ++ l.flatMap Ex.mark ++ (rs.take k).flatMap Ar.mark) ++ (q1 ++ q2) = p1 ++ p2 ++ p3 ++ ys.flatMap Y.mark ++ l.flatMap Ex.mark ++ (rs.take (k + 1)).flatMap Ar.mark := by rw [hsn]; simp only [List.append_assoc]
          repeat (first | refine gG ?_ | refine zN1 (fun hlen => ?_) | refine zN2 (fun hlen => ?_) | refine zAl (fun _ => ?_) | refine zBf ?_)
          refine ac_draw [1, 1, 1, 1, 1, 1, 1, 1, 1, 1] [0, 1, 2, 3, 4, 5, 6, 7, 8, 9] (by kernel_rfl) (by kernel_rfl) ?_
          refine gW ?_
          apply w_q; (focus exact rfl); (focus exact rfl); focus (intro _; (refine lo_call c_q1 rfl (by repeat (first | exact rzs_nil | apply rzs_cons | exact rz_c | exact rz_nil rfl | apply rz_agg | exact rz_own rfl | apply rz_fn | exact rz_ptr rfl | apply rz_tup)) ?_; rintro _ rfl); exact det_refl)
          refine gW ?_
          apply w_q; (focus exact rfl); (focus exact rfl); focus (intro _; (refine lo_call c_q2 rfl (by repeat (first | exact rzs_nil | apply rzs_cons | exact rz_c | exact rz_nil rfl | apply rz_agg | exact rz_own rfl | apply rz_fn | exact rz_ptr rfl | apply rz_tup)) ?_; rintro _ rfl); exact det_refl)
          apply w_q; (focus exact rfl); (focus exact rfl); focus (intro _; (refine zCatb (q1) (q2) (by first | omega | (simp only [List.length_append]; omega)) ?_); exact det_refl)
          apply w_q; (focus exact rfl); (focus exact rfl); focus (intro _; (refine zCatb (p1 ++ p2 ++ p3 ++ ys.flatMap Y.mark ++ l.flatMap Ex.mark ++ (rs.take k).flatMap Ar.mark) (q1 ++ q2) (by first | omega | (simp only [List.length_append]; omega)) ?_); exact det_refl)
          refine gW ?_
          refine w_nil ?_
          repeat (first | refine gG ?_ | refine zN1 (fun hlen => ?_) | refine zN2 (fun hlen => ?_) | refine zAl (fun _ => ?_) | refine zBf ?_)
          exact ⟨k + 1, hk', by omega, x_wkd 0 ⟨rfl, by rw [← hfin]; rfl, trivial⟩ rfl (by repeat (first | exact ag_refl | refine ag_upd rfl ?_ | refine ag_at rfl rfl ?_))⟩
        · have hk' : k = rs.length := by
            have : ¬ k < rs.length := by simpa using h
            omega
          subst hk'
          rw [List.take_length]
          clear h
          repeat (first | refine gG ?_ | refine zN1 (fun hlen => ?_) | refine zN2 (fun hlen => ?_) | refine zAl (fun _ => ?_) | refine zBf ?_)
          first | refine zR ?_ | refine zQ ?_
          rfl
end Go.Proofs.YtllgibfmddihgaaDoor
namespace Go.Proofs.YtllgibfmddihgaaDoor
open Go.RowKit
theorem Us.mark_pos (x : Us) : 1 ≤ x.mark.length := by have := textB_pos x.name; simp only [Us.mark, List.length_append]; omega
theorem Mk.mark_pos (x : Mk) : 1 ≤ x.mark.length := by have := textB_pos x.name; simp only [Mk.mark, List.length_append]; omega
theorem Da.mark_pos (x : Da) : 1 ≤ x.mark.length := by have := textB_pos x.name; simp only [Da.mark, List.length_append]; omega
theorem Tr.mark_pos (x : Tr) : 1 ≤ x.mark.length := by have := textB_pos x.name; simp only [Tr.mark, List.length_append]; omega
theorem Im.mark_pos (x : Im) : 1 ≤ x.mark.length := by have := textB_pos x.trait; simp only [Im.mark, List.length_append]; omega
theorem Ac.mark_pos (x : Ac) : 1 ≤ x.mark.length := by have := textB_pos x.name; simp only [Ac.mark, List.length_append]; omega
theorem Fu.mark_pos (x : Fu) : 1 ≤ x.mark.length := by have := textB_pos x.name; simp only [Fu.mark, List.length_append]; omega
end Go.Proofs.YtllgibfmddihgaaDoor
namespace Go.Proofs.YtllgibfmddihgaaDoor
open Go.RowKit
set_option maxRecDepth 100000 in
set_option maxHeartbeats 1000000 in
theorem eqStrs_af (l r : List ByteArray) : AF Tryd.prog 39 [strRow l, strRow r] (· = .lit (.bool (eqBy eqStr l r))) := by
  refine af_enter tok Tryd.func39 Tryd.ntmps39 Tryd.results39 rfl (by kernel_rfl) rfl rfl fun F hX => ?_
  repeat (first | refine gG ?_ | refine zN1 (fun hlen => ?_) | refine zN2 (fun hlen => ?_))
  refine x_cond rfl (fun h => ?_) (fun h => ?_)
  · repeat (first | refine gG ?_ | refine zN1 (fun hlen => ?_) | refine zN2 (fun hlen => ?_))
    first | refine zR ?_ | refine zQ ?_
    have : l.length ≠ r.length := by have := h; simp at this; omega
    rw [eqBy_len this]
    rfl
  · have hlr : l.length = r.length := by have := h; simp at this; omega
    clear h
    repeat (first | refine gG ?_ | refine zN1 (fun hlen => ?_) | refine zN2 (fun hlen => ?_))
    refine x_loop [4, 5, 13, 14, 15, 16, 17, 18, 19, 20, 21, 22, 23, 24, 25] (fun k : Nat => [(13, .c (.lit (.int .i64 k)))]) (fun _ => []) (fun k => k ≤ l.length ∧ eqBy eqStr l r = eqBy eqStr (l.drop k) (r.drop k)) (fun k => l.length - k) 0 ⟨Nat.zero_le _, rfl⟩ ⟨rfl, trivial⟩ rfl fun k hk => ?_
    repeat (first | refine gG ?_ | refine zN1 (fun hlen => ?_) | refine zN2 (fun hlen => ?_))
    refine x_cond rfl (fun h => ?_) (fun h => ?_)
    · have hk' : k < l.length := by simpa using h
      have hk2 : k < r.length := hlr ▸ hk'
      obtain ⟨a, ha⟩ := nth hk'
      obtain ⟨b, hb⟩ := nth hk2
      have hstep : eqBy eqStr (l.drop k) (r.drop k) = (decide (a = b) && eqBy eqStr (l.drop (k + 1)) (r.drop (k + 1))) := eqBy_step ha hb
      have h1 : (l.flatMap strTs)[k * 1]? = some (.lit (.string a)) := by rw [Nat.mul_one]; exact str_at ha
      have h2 : (r.flatMap strTs)[k * 1]? = some (.lit (.string b)) := by rw [Nat.mul_one]; exact str_at hb
      clear h
      repeat (first | refine gG ?_ | refine zN1 (fun hlen => ?_) | refine zN2 (fun hlen => ?_))
      refine ac_draw [1, 1, 1, 1, 1, 1, 1, 1, 1] [0, 1, 2, 3, 4, 5, 6, 7, 8] (by kernel_rfl) (by kernel_rfl) ?_
      refine gW ?_
      apply w_q; (focus exact rfl); (focus exact rfl); focus (intro _; (refine zIx k hk' ?_); exact det_refl)
      apply w_q; (focus exact rfl); (focus exact rfl); focus (intro _; (refine zEl1 h1 ?_); exact det_refl)
      refine gW ?_
      apply w_q; (focus exact rfl); (focus exact rfl); focus (intro _; (refine zIx k hk2 ?_); exact det_refl)
      apply w_q; (focus exact rfl); (focus exact rfl); focus (intro _; (refine zEl1 h2 ?_); exact det_refl)
      refine gW ?_
      refine w_nil ?_
      cases d1 : decide (a = b)
      · repeat (first | refine gG ?_ | refine zN1 (fun hlen => ?_) | refine zN2 (fun hlen => ?_))
        first | refine zR ?_ | refine zQ ?_
        rw [hk.2, hstep, d1]
        rfl
      · repeat (first | refine gG ?_ | refine zN1 (fun hlen => ?_) | refine zN2 (fun hlen => ?_))
        exact ⟨k + 1, ⟨hk', by rw [hk.2, hstep, d1, Bool.true_and]⟩, by omega, x_wkd 0 ⟨rfl, trivial⟩ rfl (by repeat (first | exact ag_refl | refine ag_upd rfl ?_ | refine ag_at rfl rfl ?_))⟩
    · have hk' : k = l.length := by
        have : ¬ k < l.length := by simpa using h
        omega
      repeat (first | refine gG ?_ | refine zN1 (fun hlen => ?_) | refine zN2 (fun hlen => ?_))
      first | refine zR ?_ | refine zQ ?_
      rw [hk.2, hk', List.drop_length, hlr, List.drop_length]
      rfl
end Go.Proofs.YtllgibfmddihgaaDoor
