/-
  Texts of this proof, part 7: Tma Tmb Tmc Tme Tmf Tmg Tmh Tmi Tmj Tmk Tnc Tnd Tni Tnj Tnk Tnl Tno Ab32.
-/
import Derived.Test.YtllgibfmddihgaaDoorQSchemeSays6
import Derived.Laws.Strings2
import Derived.Laws.StructEq
import Derived.Lib.AppendStr
import Derived.Lib.ItoaNum
import Derived.Lib.MinMax
namespace Go.Proofs.YtllgibfmddihgaaDoor
open Go.RowKit
def dval (l : List UInt8) : Nat := l.foldl (fun a c => a * 10 + (c.toNat - 48)) 0
theorem dval_snoc (l : List UInt8) (c : UInt8) : dval (l ++ [c]) = dval l * 10 + (c.toNat - 48) := by simp [dval]
theorem dig_nat {u : Nat} (h : u < 10) : (UInt8.ofNat (48 + u)).toNat = 48 + u := by simp; omega
theorem dval_dec (u : Nat) : dval (Lib.decDigits u) = u ∧ ∀ c ∈ Lib.decDigits u, 48 ≤ c.toNat ∧ c.toNat ≤ 57 := by
  induction u using Nat.strongRecOn with
  | _ u ih =>
    rw [Lib.decDigits]
    by_cases h : u < 10
    · rw [dif_pos h]
      have h1 := dig_nat h
      refine ⟨?_, fun c hc => ?_⟩
      · have : dval ([] ++ [UInt8.ofNat (48 + u)]) = u := by rw [dval_snoc, h1]; simp [dval]
        simpa using this
      · rw [List.mem_singleton] at hc
        subst hc
        omega
    · rw [dif_neg h]
      obtain ⟨g1, g2⟩ := ih (u / 10) (by omega)
      have h1 := dig_nat (show u % 10 < 10 by omega)
      refine ⟨by rw [dval_snoc, g1, h1]; omega, fun c hc => ?_⟩
      rcases List.mem_append.1 hc with hc | hc
      · exact g2 c hc
      · rw [List.mem_singleton] at hc
        subst hc
        omega
theorem itoa_no (n : Int) : (44 : UInt8) ∉ Lib.itoa n := by
  intro h
  have key : ∀ u, (44 : UInt8) ∈ Lib.decDigits u → False := fun u hu => by
    have := (dval_dec u).2 _ hu
    have e : (44 : UInt8).toNat = 44 := rfl
    omega
  unfold Lib.itoa at h
  split at h
  · rcases List.mem_cons.1 h with h | h
    · exact absurd h (by decide)
    · exact key _ h
  · exact key _ h
theorem itoa_inj {a b : Int} (h : Lib.itoa a = Lib.itoa b) : a = b := by
  have key : ∀ (u : Nat) (l : List UInt8), 45 :: l = Lib.decDigits u → False := fun u l e => by
    have := (dval_dec u).2 45 (by rw [← e]; simp)
    have e : (45 : UInt8).toNat = 45 := rfl
    omega
  unfold Lib.itoa at h
  split at h <;> split at h
  · injection h with _ h
    have := congrArg dval h
    rw [(dval_dec _).1, (dval_dec _).1] at this
    omega
  · exact (key _ _ h).elim
  · exact (key _ _ h.symm).elim
  · have := congrArg dval h
    rw [(dval_dec _).1, (dval_dec _).1] at this
    omega
theorem cut_at {c : UInt8} : ∀ {a b r s : List UInt8}, c ∉ a → c ∉ b → a ++ c :: r = b ++ c :: s → a = b ∧ r = s
  | [], [], r, s, _, _, h => by simpa using h
  | [], y :: b, r, s, _, hb, h => by
    simp only [List.nil_append, List.cons_append, List.cons.injEq] at h
    exact absurd (by simp [h.1]) hb
  | x :: a, [], r, s, ha, _, h => by
    simp only [List.nil_append, List.cons_append, List.cons.injEq] at h
    exact absurd (by simp [h.1]) ha
  | x :: a, y :: b, r, s, ha, hb, h => by
    simp only [List.cons_append, List.cons.injEq] at h
    obtain ⟨h1, h2⟩ := cut_at (fun e => ha (List.mem_cons_of_mem _ e)) (fun e => hb (List.mem_cons_of_mem _ e)) h.2
    exact ⟨by rw [h.1, h1], h2⟩
def numB (x : Int) : List UInt8 := Lib.itoa x ++ [44]
def textB (s : ByteArray) : List UInt8 := numB (s.size : Nat) ++ s.data.toList
def numsB (l : List Int) : List UInt8 := l.flatMap numB
def textsB (l : List ByteArray) : List UInt8 := l.flatMap textB
theorem numB_of {a b : Int} {r s : List UInt8} (h : numB a ++ r = numB b ++ s) : a = b ∧ r = s := by
  simp only [numB, List.append_assoc, List.singleton_append] at h
  obtain ⟨h1, h2⟩ := cut_at (itoa_no a) (itoa_no b) h
  exact ⟨itoa_inj h1, h2⟩
theorem lenB_of {a b : Nat} {r s : List UInt8} (h : numB (a : Nat) ++ r = numB (b : Nat) ++ s) : a = b ∧ r = s := by
  obtain ⟨h1, h2⟩ := numB_of h
  exact ⟨by omega, h2⟩
theorem textB_of {a b : ByteArray} {r s : List UInt8} (h : textB a ++ r = textB b ++ s) : a = b ∧ r = s := by
  simp only [textB, List.append_assoc] at h
  obtain ⟨h1, h2⟩ := lenB_of h
  obtain ⟨h3, h4⟩ := List.append_inj h2 (by simpa using h1)
  refine ⟨?_, h4⟩
  cases a; cases b
  simp only [ByteArray.mk.injEq]
  exact Array.ext' h3
structure Code {α : Type} (enc : α → List UInt8) (eq : α → α → Bool) (a : α) : Prop where
  to : ∀ b, eq a b = true → enc a = enc b
  of : ∀ b r s, enc a ++ r = enc b ++ s → eq a b = true ∧ r = s
theorem Code.iff {α : Type} {enc : α → List UInt8} {eq : α → α → Bool} {a : α} (h : Code enc eq a) (b : α) : eq a b = decide (enc a = enc b) := by
  cases hq : eq a b with
  | true => simp [h.to b hq]
  | false =>
    have : enc a ≠ enc b := fun e => by
      have := (h.of b [] [] (by rw [e])).1
      rw [hq] at this; cases this
    simp [this]
theorem codes_to {α : Type} {enc : α → List UInt8} {eq : α → α → Bool} : ∀ {l l' : List α}, (∀ a ∈ l, Code enc eq a) → eqBy eq l l' = true → l.length = l'.length ∧ l.flatMap enc = l'.flatMap enc
  | [], [], _, _ => ⟨rfl, rfl⟩
  | [], _ :: _, _, h => by simp [eqBy] at h
  | _ :: _, [], _, h => by simp [eqBy] at h
  | a :: l, b :: l', hc, h => by
    simp only [eqBy, Bool.and_eq_true] at h
    obtain ⟨h1, h2⟩ := codes_to (fun x hx => hc x (List.mem_cons_of_mem _ hx)) h.2
    exact ⟨by simp [h1], by simp only [List.flatMap_cons]; rw [(hc a (by simp)).to b h.1, h2]⟩
theorem codes_of {α : Type} {enc : α → List UInt8} {eq : α → α → Bool} : ∀ {l l' : List α} {r s : List UInt8}, (∀ a ∈ l, Code enc eq a) → l.length = l'.length → l.flatMap enc ++ r = l'.flatMap enc ++ s → eqBy eq l l' = true ∧ r = s
  | [], [], _, _, _, _, h => ⟨rfl, by simpa using h⟩
  | [], _ :: _, _, _, _, hl, _ => by simp at hl
  | _ :: _, [], _, _, _, hl, _ => by simp at hl
  | a :: l, b :: l', r, s, hc, hl, h => by
    simp only [List.flatMap_cons, List.append_assoc] at h
    obtain ⟨h1, h2⟩ := (hc a (by simp)).of b _ _ h
    obtain ⟨h3, h4⟩ := codes_of (fun x hx => hc x (List.mem_cons_of_mem _ hx)) (by simpa using hl) h2
    exact ⟨by simp [eqBy, h1, h3], h4⟩
theorem text_code (a : ByteArray) : Code textB (fun x y => decide (x = y)) a := ⟨fun b h => by simp at h; rw [h], fun b r s h => by obtain ⟨h1, h2⟩ := textB_of h; exact ⟨by simp [h1], h2⟩⟩
def eqStr (x y : ByteArray) : Bool := decide (x = y)
theorem str_code (a : ByteArray) : Code textB eqStr a := text_code a
mutual
def Y.mark : Y → List UInt8
  | .mk k n l => numB k ++ (numB (l.length : Nat) ++ (textB n ++ Y.marks l))
def Y.marks : List Y → List UInt8
  | [] => []
  | v :: r => v.mark ++ Y.marks r
end
mutual
def Y.same : Y → Y → Bool
  | .mk k n l, .mk k' n' l' => decide (k = k') && (decide (n = n') && Y.sames l l')
def Y.sames : List Y → List Y → Bool
  | [], [] => true
  | a :: l, b :: r => a.same b && Y.sames l r
  | [], _ :: _ => false
  | _ :: _, [] => false
end
theorem Y.marks_eq : ∀ l : List Y, Y.marks l = l.flatMap Y.mark
  | [] => rfl
  | v :: l => by rw [Y.marks, Y.marks_eq l]; rfl
theorem Y.sames_eq : ∀ l r : List Y, Y.sames l r = eqBy Y.same l r
  | [], [] => rfl
  | a :: l, b :: r => by rw [Y.sames, eqBy, Y.sames_eq l r]
  | [], _ :: _ => by simp [Y.sames, eqBy]
  | _ :: _, [] => by simp [Y.sames, eqBy]
theorem Y.code : ∀ a : Y, Code Y.mark Y.same a := by
  intro a
  induction a using Y.ind with
  | h k n l ih =>
    refine ⟨fun b h => ?_, fun b r s h => ?_⟩
    · obtain ⟨k', n', l'⟩ := b
      simp only [Y.same, Y.sames_eq, Bool.and_eq_true, decide_eq_true_eq] at h
      obtain ⟨rfl, rfl, h⟩ := h
      obtain ⟨h1, h2⟩ := codes_to ih h
      simp only [Y.mark, Y.marks_eq, h1, h2]
    · obtain ⟨k', n', l'⟩ := b
      simp only [Y.mark, Y.marks_eq, List.append_assoc] at h
      obtain ⟨e1, h⟩ := numB_of h
      obtain ⟨hl, h⟩ := lenB_of h
      obtain ⟨e2, h⟩ := textB_of h
      obtain ⟨h1, h2⟩ := codes_of ih hl h
      exact ⟨by simp [e1, e2, Y.same, Y.sames_eq, h1], h2⟩
mutual
def V.mark : V → List UInt8
  | .mk k n t l => numB k ++ (numB n ++ (numB (l.length : Nat) ++ (textB t ++ V.marks l)))
def V.marks : List V → List UInt8
  | [] => []
  | v :: r => v.mark ++ V.marks r
end
mutual
def V.alike : V → V → Bool
  | .mk k n t l, .mk k' n' t' l' => decide (k = k') && (decide (n = n') && (decide (t = t') && V.alikes l l'))
def V.alikes : List V → List V → Bool
  | [], [] => true
  | a :: l, b :: r => a.alike b && V.alikes l r
  | [], _ :: _ => false
  | _ :: _, [] => false
end
theorem V.marks_eq : ∀ l : List V, V.marks l = l.flatMap V.mark
  | [] => rfl
  | v :: l => by rw [V.marks, V.marks_eq l]; rfl
theorem V.alikes_eq : ∀ l r : List V, V.alikes l r = eqBy V.alike l r
  | [], [] => rfl
  | a :: l, b :: r => by rw [V.alikes, eqBy, V.alikes_eq l r]
  | [], _ :: _ => by simp [V.alikes, eqBy]
  | _ :: _, [] => by simp [V.alikes, eqBy]
theorem V.code : ∀ a : V, Code V.mark V.alike a := by
  intro a
  induction a using V.ind with
  | h k n t l ih =>
    refine ⟨fun b h => ?_, fun b r s h => ?_⟩
    · obtain ⟨k', n', t', l'⟩ := b
      simp only [V.alike, V.alikes_eq, Bool.and_eq_true, decide_eq_true_eq] at h
      obtain ⟨rfl, rfl, rfl, h⟩ := h
      obtain ⟨h1, h2⟩ := codes_to ih h
      simp only [V.mark, V.marks_eq, h1, h2]
    · obtain ⟨k', n', t', l'⟩ := b
      simp only [V.mark, V.marks_eq, List.append_assoc] at h
      obtain ⟨e1, h⟩ := numB_of h
      obtain ⟨e2, h⟩ := numB_of h
      obtain ⟨hl, h⟩ := lenB_of h
      obtain ⟨e3, h⟩ := textB_of h
      obtain ⟨h1, h2⟩ := codes_of ih hl h
      exact ⟨by simp [e1, e2, e3, V.alike, V.alikes_eq, h1], h2⟩
mutual
def Ex.mark : Ex → List UInt8
  | .mk k n t ns ys l rs _ => numB k ++ (numB n ++ (numB (ns.length : Nat) ++ (numB (ys.length : Nat) ++ (numB (l.length : Nat) ++ (numB (rs.length : Nat) ++ (textB t ++ (textsB ns ++ (ys.flatMap Y.mark ++ (Ex.marks l ++ Ar.marks rs)))))))))
def Ex.marks : List Ex → List UInt8
  | [] => []
  | v :: r => v.mark ++ Ex.marks r
def Ar.mark : Ar → List UInt8
  | .mk p b => p.mark ++ b.mark
def Ar.marks : List Ar → List UInt8
  | [] => []
  | v :: r => v.mark ++ Ar.marks r
end
mutual
def Ex.same : Ex → Ex → Bool
  | .mk k n t ns ys l rs _, .mk k' n' t' ns' ys' l' rs' _ => decide (k = k') && (decide (n = n') && (decide (t = t') && (eqBy eqStr ns ns' && (eqBy Y.same ys ys' && (Ex.sames l l' && Ar.sames rs rs')))))
def Ex.sames : List Ex → List Ex → Bool
  | [], [] => true
  | a :: l, b :: r => a.same b && Ex.sames l r
  | [], _ :: _ => false
  | _ :: _, [] => false
def Ar.same : Ar → Ar → Bool
  | .mk p b, .mk p' b' => p.alike p' && b.same b'
def Ar.sames : List Ar → List Ar → Bool
  | [], [] => true
  | a :: l, b :: r => a.same b && Ar.sames l r
  | [], _ :: _ => false
  | _ :: _, [] => false
end
theorem Ex.marks_eq : ∀ l : List Ex, Ex.marks l = l.flatMap Ex.mark
  | [] => rfl
  | v :: l => by rw [Ex.marks, Ex.marks_eq l]; rfl
theorem Ar.marks_eq : ∀ l : List Ar, Ar.marks l = l.flatMap Ar.mark
  | [] => rfl
  | v :: l => by rw [Ar.marks, Ar.marks_eq l]; rfl
theorem Ex.sames_eq : ∀ l r : List Ex, Ex.sames l r = eqBy Ex.same l r
  | [], [] => by simp [Ex.sames, eqBy]
  | a :: l, b :: r => by rw [Ex.sames, eqBy, Ex.sames_eq l r]
  | [], _ :: _ => by simp [Ex.sames, eqBy]
  | _ :: _, [] => by simp [Ex.sames, eqBy]
theorem Ar.sames_eq : ∀ l r : List Ar, Ar.sames l r = eqBy Ar.same l r
  | [], [] => by simp [Ar.sames, eqBy]
  | a :: l, b :: r => by rw [Ar.sames, eqBy, Ar.sames_eq l r]
  | [], _ :: _ => by simp [Ar.sames, eqBy]
  | _ :: _, [] => by simp [Ar.sames, eqBy]
theorem Ar.code_of {p : V} {b : Ex} (h : Code Ex.mark Ex.same b) : Code Ar.mark Ar.same (.mk p b) := by
  refine ⟨fun c hc => ?_, fun c r s hc => ?_⟩
  · obtain ⟨p', b'⟩ := c
    simp only [Ar.same, Bool.and_eq_true] at hc
    rw [Ar.mark, Ar.mark, p.code.to _ hc.1, h.to _ hc.2]
  · obtain ⟨p', b'⟩ := c
    simp only [Ar.mark, List.append_assoc] at hc
    obtain ⟨h1, hc⟩ := p.code.of _ _ _ hc
    obtain ⟨h2, hc⟩ := h.of _ _ _ hc
    exact ⟨by simp [Ar.same, h1, h2], hc⟩
theorem Ex.code : ∀ a : Ex, Code Ex.mark Ex.same a := by
  intro a
  induction a using Ex.ind with
  | h k n t ns ys l rs a ih1 ih2 =>
    have ih3 : ∀ r ∈ rs, Code Ar.mark Ar.same r := fun r hr => by
      obtain ⟨p, b⟩ := r
      exact Ar.code_of (ih2 _ hr p b rfl)
    refine ⟨fun b h => ?_, fun b r s h => ?_⟩
    · obtain ⟨k', n', t', ns', ys', l', rs', a'⟩ := b
      simp only [Ex.same, Ex.sames_eq, Ar.sames_eq, Bool.and_eq_true, decide_eq_true_eq] at h
      obtain ⟨rfl, rfl, rfl, h1, h2, h3, h4⟩ := h
      obtain ⟨g1, g2⟩ := codes_to (fun a _ => str_code a) h1
      obtain ⟨g3, g4⟩ := codes_to (fun a _ => Y.code a) h2
      obtain ⟨g5, g6⟩ := codes_to ih1 h3
      obtain ⟨g7, g8⟩ := codes_to ih3 h4
      simp only [Ex.mark, Ex.marks_eq, Ar.marks_eq, textsB, g1, g2, g3, g4, g5, g6, g7, g8]
    · obtain ⟨k', n', t', ns', ys', l', rs', a'⟩ := b
      simp only [Ex.mark, Ex.marks_eq, Ar.marks_eq, textsB, List.append_assoc] at h
      obtain ⟨e1, h⟩ := numB_of h
      obtain ⟨e2, h⟩ := numB_of h
      obtain ⟨h1, h⟩ := lenB_of h
      obtain ⟨h2, h⟩ := lenB_of h
      obtain ⟨h3, h⟩ := lenB_of h
      obtain ⟨h4, h⟩ := lenB_of h
      obtain ⟨e3, h⟩ := textB_of h
      obtain ⟨g1, h⟩ := codes_of (fun a _ => str_code a) h1 h
      obtain ⟨g2, h⟩ := codes_of (fun a _ => Y.code a) h2 h
      obtain ⟨g3, h⟩ := codes_of ih1 h3 h
      obtain ⟨g4, h⟩ := codes_of ih3 h4 h
      exact ⟨by simp [e1, e2, e3, Ex.same, Ex.sames_eq, Ar.sames_eq, g1, g2, g3, g4], h⟩
def namesB (l : List ByteArray) : List UInt8 := numB (l.length : Nat) ++ textsB l
def typesB (l : List Y) : List UInt8 := numB (l.length : Nat) ++ l.flatMap Y.mark
theorem names_to {l l' : List ByteArray} (h : eqBy eqStr l l' = true) : namesB l = namesB l' := by
  obtain ⟨h1, h2⟩ := codes_to (fun a _ => str_code a) h
  simp only [namesB, textsB, h1, h2]
theorem names_of {l l' : List ByteArray} {r s : List UInt8} (h : namesB l ++ r = namesB l' ++ s) : eqBy eqStr l l' = true ∧ r = s := by
  simp only [namesB, textsB, List.append_assoc] at h
  obtain ⟨h1, h⟩ := lenB_of h
  exact codes_of (fun a _ => str_code a) h1 h
theorem types_to {l l' : List Y} (h : eqBy Y.same l l' = true) : typesB l = typesB l' := by
  obtain ⟨h1, h2⟩ := codes_to (fun a _ => Y.code a) h
  simp only [typesB, h1, h2]
theorem types_of {l l' : List Y} {r s : List UInt8} (h : typesB l ++ r = typesB l' ++ s) : eqBy Y.same l l' = true ∧ r = s := by
  simp only [typesB, List.append_assoc] at h
  obtain ⟨h1, h⟩ := lenB_of h
  exact codes_of (fun a _ => Y.code a) h1 h
def Fu.mark (f : Fu) : List UInt8 := textB f.name ++ (namesB f.params ++ (namesB f.names ++ (typesB f.types ++ (f.out.mark ++ f.body.mark))))
def Fu.same (f g : Fu) : Bool := decide (f.name = g.name) && (eqBy eqStr f.params g.params && (eqBy eqStr f.names g.names && (eqBy Y.same f.types g.types && (f.out.same g.out && f.body.same g.body))))
theorem Fu.code (f : Fu) : Code Fu.mark Fu.same f := by
  refine ⟨fun g h => ?_, fun g r s h => ?_⟩
  · simp only [Fu.same, Bool.and_eq_true, decide_eq_true_eq] at h
    obtain ⟨h1, h2, h3, h4, h5, h6⟩ := h
    simp only [Fu.mark, h1, names_to h2, names_to h3, types_to h4, f.out.code.to _ h5, f.body.code.to _ h6]
  · simp only [Fu.mark, List.append_assoc] at h
    obtain ⟨h1, h⟩ := textB_of h
    obtain ⟨h2, h⟩ := names_of h
    obtain ⟨h3, h⟩ := names_of h
    obtain ⟨h4, h⟩ := types_of h
    obtain ⟨h5, h⟩ := f.out.code.of _ _ _ h
    obtain ⟨h6, h⟩ := f.body.code.of _ _ _ h
    exact ⟨by simp [Fu.same, h1, h2, h3, h4, h5, h6], h⟩
def funcsB (l : List Fu) : List UInt8 := numB (l.length : Nat) ++ l.flatMap Fu.mark
theorem funcs_to {l l' : List Fu} (h : eqBy Fu.same l l' = true) : funcsB l = funcsB l' := by
  obtain ⟨h1, h2⟩ := codes_to (fun a _ => Fu.code a) h
  simp only [funcsB, h1, h2]
theorem funcs_of {l l' : List Fu} {r s : List UInt8} (h : funcsB l ++ r = funcsB l' ++ s) : eqBy Fu.same l l' = true ∧ r = s := by
  simp only [funcsB, List.append_assoc] at h
  obtain ⟨h1, h⟩ := lenB_of h
  exact codes_of (fun a _ => Fu.code a) h1 h
def Us.mark (u : Us) : List UInt8 := textB u.name ++ (numB u.low ++ numB u.high)
def Us.same (u v : Us) : Bool := decide (u.name = v.name) && (decide (u.low = v.low) && decide (u.high = v.high))
theorem Us.code (u : Us) : Code Us.mark Us.same u := by
  refine ⟨fun g h => ?_, fun g r s h => ?_⟩
  · simp only [Us.same, Bool.and_eq_true, decide_eq_true_eq] at h
    obtain ⟨h1, h2, h3⟩ := h
    simp only [Us.mark, h1, h2, h3]
  · simp only [Us.mark, List.append_assoc] at h
    obtain ⟨h1, h⟩ := textB_of h
    obtain ⟨h2, h⟩ := numB_of h
    obtain ⟨h3, h⟩ := numB_of h
    exact ⟨by simp [Us.same, h1, h2, h3], h⟩
def Mk.mark (m : Mk) : List UInt8 := textB m.name ++ typesB m.args
def Mk.same (m n : Mk) : Bool := decide (m.name = n.name) && eqBy Y.same m.args n.args
theorem Mk.code (m : Mk) : Code Mk.mark Mk.same m := by
  refine ⟨fun g h => ?_, fun g r s h => ?_⟩
  · simp only [Mk.same, Bool.and_eq_true, decide_eq_true_eq] at h
    simp only [Mk.mark, h.1, types_to h.2]
  · simp only [Mk.mark, List.append_assoc] at h
    obtain ⟨h1, h⟩ := textB_of h
    obtain ⟨h2, h⟩ := types_of h
    exact ⟨by simp [Mk.same, h1, h2], h⟩
def Da.mark (d : Da) : List UInt8 := textB d.name ++ (numB (d.makes.length : Nat) ++ (namesB d.params ++ d.makes.flatMap Mk.mark))
def Da.same (d e : Da) : Bool := decide (d.name = e.name) && (eqBy eqStr d.params e.params && eqBy Mk.same d.makes e.makes)
theorem Da.code (d : Da) : Code Da.mark Da.same d := by
  refine ⟨fun g h => ?_, fun g r s h => ?_⟩
  · simp only [Da.same, Bool.and_eq_true, decide_eq_true_eq] at h
    obtain ⟨g1, g2⟩ := codes_to (fun a _ => Mk.code a) h.2.2
    simp only [Da.mark, h.1, names_to h.2.1, g1, g2]
  · simp only [Da.mark, List.append_assoc] at h
    obtain ⟨h1, h⟩ := textB_of h
    obtain ⟨h2, h⟩ := lenB_of h
    obtain ⟨h3, h⟩ := names_of h
    obtain ⟨h4, h⟩ := codes_of (fun a _ => Mk.code a) h2 h
    exact ⟨by simp [Da.same, h1, h3, h4], h⟩
def Tr.mark (t : Tr) : List UInt8 := textB t.name ++ funcsB t.funcs
def Tr.same (t u : Tr) : Bool := decide (t.name = u.name) && eqBy Fu.same t.funcs u.funcs
theorem Tr.code (t : Tr) : Code Tr.mark Tr.same t := by
  refine ⟨fun g h => ?_, fun g r s h => ?_⟩
  · simp only [Tr.same, Bool.and_eq_true, decide_eq_true_eq] at h
    simp only [Tr.mark, h.1, funcs_to h.2]
  · simp only [Tr.mark, List.append_assoc] at h
    obtain ⟨h1, h⟩ := textB_of h
    obtain ⟨h2, h⟩ := funcs_of h
    exact ⟨by simp [Tr.same, h1, h2], h⟩
def Im.mark (t : Im) : List UInt8 := textB t.trait ++ (textB t.dat ++ funcsB t.funcs)
def Im.same (t u : Im) : Bool := decide (t.trait = u.trait) && (decide (t.dat = u.dat) && eqBy Fu.same t.funcs u.funcs)
theorem Im.code (t : Im) : Code Im.mark Im.same t := by
  refine ⟨fun g h => ?_, fun g r s h => ?_⟩
  · simp only [Im.same, Bool.and_eq_true, decide_eq_true_eq] at h
    simp only [Im.mark, h.1, h.2.1, funcs_to h.2.2]
  · simp only [Im.mark, List.append_assoc] at h
    obtain ⟨h1, h⟩ := textB_of h
    obtain ⟨h2, h⟩ := textB_of h
    obtain ⟨h3, h⟩ := funcs_of h
    exact ⟨by simp [Im.same, h1, h2, h3], h⟩
def Ac.mark (x : Ac) : List UInt8 := textB x.name ++ (namesB x.names ++ (typesB x.types ++ (x.msg.mark ++ x.body.mark)))
def Ac.same (x y : Ac) : Bool := decide (x.name = y.name) && (eqBy eqStr x.names y.names && (eqBy Y.same x.types y.types && (x.msg.same y.msg && x.body.same y.body)))
theorem Ac.code (x : Ac) : Code Ac.mark Ac.same x := by
  refine ⟨fun g h => ?_, fun g r s h => ?_⟩
  · simp only [Ac.same, Bool.and_eq_true, decide_eq_true_eq] at h
    obtain ⟨h1, h3, h4, h5, h6⟩ := h
    simp only [Ac.mark, h1, names_to h3, types_to h4, x.msg.code.to _ h5, x.body.code.to _ h6]
  · simp only [Ac.mark, List.append_assoc] at h
    obtain ⟨h1, h⟩ := textB_of h
    obtain ⟨h3, h⟩ := names_of h
    obtain ⟨h4, h⟩ := types_of h
    obtain ⟨h5, h⟩ := x.msg.code.of _ _ _ h
    obtain ⟨h6, h⟩ := x.body.code.of _ _ _ h
    exact ⟨by simp [Ac.same, h1, h3, h4, h5, h6], h⟩
def Pr.mark (p : Pr) : List UInt8 :=
  textB p.name ++ (numB p.version ++ (numB (p.uses.length : Nat) ++ (numB (p.datas.length : Nat) ++ (numB (p.traits.length : Nat) ++ (numB (p.impls.length : Nat) ++ (numB (p.actors.length : Nat) ++
    (p.uses.flatMap Us.mark ++ (p.datas.flatMap Da.mark ++ (p.traits.flatMap Tr.mark ++ (p.impls.flatMap Im.mark ++ (funcsB p.funcs ++ p.actors.flatMap Ac.mark)))))))))))
def Pr.same (p q : Pr) : Bool :=
  decide (p.name = q.name) && (decide (p.version = q.version) && (eqBy Us.same p.uses q.uses && (eqBy Da.same p.datas q.datas && (eqBy Tr.same p.traits q.traits && (eqBy Im.same p.impls q.impls && (eqBy Fu.same p.funcs q.funcs && eqBy Ac.same p.actors q.actors))))))
theorem Pr.code (p : Pr) : Code Pr.mark Pr.same p := by
  refine ⟨fun g h => ?_, fun g r s h => ?_⟩
  · simp only [Pr.same, Bool.and_eq_true, decide_eq_true_eq] at h
    obtain ⟨h1, h2, h3, h4, h5, h6, h7, h8⟩ := h
    obtain ⟨a1, a2⟩ := codes_to (fun a _ => Us.code a) h3
    obtain ⟨b1, b2⟩ := codes_to (fun a _ => Da.code a) h4
    obtain ⟨c1, c2⟩ := codes_to (fun a _ => Tr.code a) h5
    obtain ⟨d1, d2⟩ := codes_to (fun a _ => Im.code a) h6
    obtain ⟨e1, e2⟩ := codes_to (fun a _ => Ac.code a) h8
    simp only [Pr.mark, h1, h2, a1, a2, b1, b2, c1, c2, d1, d2, e1, e2, funcs_to h7]
  · simp only [Pr.mark, List.append_assoc] at h
    obtain ⟨h1, h⟩ := textB_of h
    obtain ⟨h2, h⟩ := numB_of h
    obtain ⟨l1, h⟩ := lenB_of h
    obtain ⟨l2, h⟩ := lenB_of h
    obtain ⟨l3, h⟩ := lenB_of h
    obtain ⟨l4, h⟩ := lenB_of h
    obtain ⟨l5, h⟩ := lenB_of h
    obtain ⟨h3, h⟩ := codes_of (fun a _ => Us.code a) l1 h
    obtain ⟨h4, h⟩ := codes_of (fun a _ => Da.code a) l2 h
    obtain ⟨h5, h⟩ := codes_of (fun a _ => Tr.code a) l3 h
    obtain ⟨h6, h⟩ := codes_of (fun a _ => Im.code a) l4 h
    obtain ⟨h7, h⟩ := funcs_of h
    obtain ⟨h8, h⟩ := codes_of (fun a _ => Ac.code a) l5 h
    exact ⟨by simp [Pr.same, h1, h2, h3, h4, h5, h6, h7, h8], h⟩
theorem Code.self {α : Type} {enc : α → List UInt8} {eq : α → α → Bool} {a : α} (h : Code enc eq a) : eq a a = true := (h.of a [] [] rfl).1
end Go.Proofs.YtllgibfmddihgaaDoor
namespace Go.Proofs.YtllgibfmddihgaaDoor
open Go.RowKit
theorem take_flat_le {α : Type} (f : α → List UInt8) (l : List α) (k : Nat) : ((l.take k).flatMap f).length ≤ (l.flatMap f).length := by
  have := congrArg (fun r => (List.flatMap f r).length) (List.take_append_drop k l)
  simp only [List.flatMap_append, List.length_append] at this
  omega
theorem mem_flat_le {α : Type} (f : α → List UInt8) {l : List α} {a : α} (h : a ∈ l) : (f a).length ≤ (l.flatMap f).length := by
  obtain ⟨s, t, rfl⟩ := List.append_of_mem h
  simp only [List.flatMap_append, List.flatMap_cons, List.length_append]
  omega
theorem bs_take0 {α : Type} (f : α → List UInt8) (l : List α) (p : List UInt8) : bs (p ++ (l.take 0).flatMap f) = bs p := by simp
set_option maxRecDepth 100000 in
set_option maxHeartbeats 1000000 in
theorem nums_af (l : List Int) (hi : ∀ n ∈ l, inI n) (hb : (numsB l).length ≤ 1099511627776) : AF Tryd.prog 96 [intRow l] (· = .lit (.string (bs (numsB l)))) := by
  refine af_enter tok Tryd.func96 Tryd.ntmps96 Tryd.results96 rfl (by kernel_rfl) rfl rfl fun F hX => ?_
  repeat (first | refine gG ?_ | refine zN1 (fun hlen => ?_) | refine zN2 (fun hlen => ?_))
  refine x_loop [3, 5, 8, 9, 10, 11, 12, 13, 14, 15, 16, 17] (fun k : Nat => [(8, .c (.lit (.int .i64 (k : Nat)))), (3, .c (.lit (.string (bs ((l.take k).flatMap numB)))))]) (fun _ => []) (fun k => k ≤ l.length) (fun k => l.length - k) 0 (Nat.zero_le _) ⟨rfl, rfl, trivial⟩ rfl ?_
  intro k hk
  repeat (first | refine gG ?_ | refine zN1 (fun hlen => ?_) | refine zN2 (fun hlen => ?_))
  refine x_cond rfl (fun h => ?_) (fun h => ?_)
  · have hk' : k < l.length := by simpa using h
    obtain ⟨a, ha⟩ := nth hk'
    have hc := itoa_af a (hi a (List.mem_of_getElem? ha))
    have hsn := flat_snoc' numB ha
    have h1 := take_flat_le numB l k
    have h2 := mem_flat_le numB (List.mem_of_getElem? ha)
    have e2 : numB a = Lib.itoa a ++ [44] := rfl
    have h3 : (numB a).length = (Lib.itoa a).length + 1 := by rw [e2, List.length_append]; rfl
    unfold numsB at hb
    clear h
    repeat (first | refine gG ?_ | refine zN1 (fun hlen => ?_) | refine zN2 (fun hlen => ?_))
    refine zIx k hk' ?_
    repeat (first | refine gG ?_ | refine zN1 (fun hlen => ?_) | refine zN2 (fun hlen => ?_))
    refine zEl1 (v := .lit (.int .i64 a)) (int_at ha) ?_
    repeat (first | refine gG ?_ | refine zN1 (fun hlen => ?_) | refine zN2 (fun hlen => ?_))
    refine zCall (hc) ?_
    rintro _ rfl
    repeat (first | refine gG ?_ | refine zN1 (fun hlen => ?_) | refine zN2 (fun hlen => ?_))
    refine zCatb (Lib.itoa a) [44] (by simp only [List.length_cons, List.length_nil]; omega) ?_
    repeat (first | refine gG ?_ | refine zN1 (fun hlen => ?_) | refine zN2 (fun hlen => ?_))
    refine zCatb ((l.take k).flatMap numB) (numB a) (by omega) ?_
    repeat (first | refine gG ?_ | refine zN1 (fun hlen => ?_) | refine zN2 (fun hlen => ?_))
    exact ⟨k + 1, hk', by omega, x_wkd 0 ⟨rfl, by rw [hsn]; rfl, trivial⟩ rfl (by repeat (first | exact ag_refl | refine ag_upd rfl ?_ | refine ag_at rfl rfl ?_))⟩
  · have hk' : k = l.length := by have : ¬ k < l.length := by simpa using h
                                  omega
    subst hk'
    repeat (first | refine gG ?_ | refine zN1 (fun hlen => ?_) | refine zN2 (fun hlen => ?_))
    first | refine zR ?_ | refine zQ ?_
    rw [List.take_length]
    rfl
theorem num1_af (n : Int) (h : inI n) (hb : (numB n).length ≤ 1099511627776) : AF Tryd.prog 96 [intRow [n]] (· = .lit (.string (bs (numB n)))) := by
  have := nums_af [n] (by simpa using h) (by simpa [numsB] using hb)
  simpa [numsB] using this
theorem inI_nat {n : Nat} (h : n ≤ 9223372036854775807) : inI (n : Int) := by unfold inI; omega
set_option maxRecDepth 100000 in
set_option maxHeartbeats 1000000 in
theorem texts_af (l : List ByteArray) (hb : (textsB l).length ≤ 1099511627776) : AF Tryd.prog 95 [strRow l] (· = .lit (.string (bs (textsB l)))) := by
  refine af_enter tok Tryd.func95 Tryd.ntmps95 Tryd.results95 rfl (by kernel_rfl) rfl rfl fun F hX => ?_
  repeat (first | refine gG ?_ | refine zN1 (fun hlen => ?_) | refine zN2 (fun hlen => ?_))
  refine x_loop [3, 5, 8, 9, 10, 11, 12, 13, 14, 15, 16, 17, 18, 19, 20] (fun k : Nat => [(8, .c (.lit (.int .i64 (k : Nat)))), (3, .c (.lit (.string (bs ((l.take k).flatMap textB)))))]) (fun _ => []) (fun k => k ≤ l.length) (fun k => l.length - k) 0 (Nat.zero_le _) ⟨rfl, rfl, trivial⟩ rfl ?_
  intro k hk
  repeat (first | refine gG ?_ | refine zN1 (fun hlen => ?_) | refine zN2 (fun hlen => ?_))
  refine x_cond rfl (fun h => ?_) (fun h => ?_)
  · have hk' : k < l.length := by simpa using h
    obtain ⟨a, ha⟩ := nth hk'
    have hsn := flat_snoc' textB ha
    have h1 := take_flat_le textB l k
    have h2 := mem_flat_le textB (List.mem_of_getElem? ha)
    have e2 : textB a = numB (a.size : Nat) ++ a.data.toList := rfl
    have h3 : (textB a).length = (numB (a.size : Nat)).length + a.size := by rw [e2, List.length_append]; rfl
    have hst : (l.flatMap strTs)[k * 1]? = some (.lit (.string a)) := by rw [Nat.mul_one]; exact str_at ha
    unfold textsB at hb
    have hc := num1_af (a.size : Nat) (inI_nat (by omega)) (by omega)
    clear h
    repeat (first | refine gG ?_ | refine zN1 (fun hlen => ?_) | refine zN2 (fun hlen => ?_))
    refine zIx k hk' ?_
    repeat (first | refine gG ?_ | refine zN1 (fun hlen => ?_) | refine zN2 (fun hlen => ?_))
    refine zEl1 (v := .lit (.string a)) hst ?_
    repeat (first | refine gG ?_ | refine zN1 (fun hlen => ?_) | refine zN2 (fun hlen => ?_))
    refine zCall (hc) ?_
    rintro _ rfl
    repeat (first | refine gG ?_ | refine zN1 (fun hlen => ?_) | refine zN2 (fun hlen => ?_))
    refine zCatb (numB (a.size : Nat)) a.data.toList (by have : a.data.toList.length = a.size := rfl; omega) ?_
    repeat (first | refine gG ?_ | refine zN1 (fun hlen => ?_) | refine zN2 (fun hlen => ?_))
    refine zCatb ((l.take k).flatMap textB) (textB a) (by omega) ?_
    repeat (first | refine gG ?_ | refine zN1 (fun hlen => ?_) | refine zN2 (fun hlen => ?_))
    exact ⟨k + 1, hk', by omega, x_wkd 0 ⟨rfl, by rw [hsn]; rfl, trivial⟩ rfl (by repeat (first | exact ag_refl | refine ag_upd rfl ?_ | refine ag_at rfl rfl ?_))⟩
  · have hk' : k = l.length := by have : ¬ k < l.length := by simpa using h
                                  omega
    subst hk'
    repeat (first | refine gG ?_ | refine zN1 (fun hlen => ?_) | refine zN2 (fun hlen => ?_))
    first | refine zR ?_ | refine zQ ?_
    rw [List.take_length]
    rfl
end Go.Proofs.YtllgibfmddihgaaDoor
namespace Go.Proofs.YtllgibfmddihgaaDoor
open Go.RowKit
theorem len_flat_le {α : Type} (f : α → List UInt8) (h : ∀ a, 1 ≤ (f a).length) : ∀ l : List α, l.length ≤ (l.flatMap f).length
  | [] => by simp
  | a :: l => by
    have := h a
    have := len_flat_le f h l
    simp only [List.flatMap_cons, List.length_append, List.length_cons]
    omega
theorem numB_pos (n : Int) : 1 ≤ (numB n).length := by simp [numB]
theorem textB_pos (s : ByteArray) : 1 ≤ (textB s).length := by have := numB_pos (s.size : Nat); simp only [textB, List.length_append]; omega
theorem Y.mark_pos : ∀ y : Y, 1 ≤ y.mark.length
  | .mk k n l => by have := numB_pos k; simp only [Y.mark, List.length_append]; omega
theorem V.mark_pos : ∀ y : V, 1 ≤ y.mark.length
  | .mk k n t l => by have := numB_pos k; simp only [V.mark, List.length_append]; omega
theorem Ex.mark_pos : ∀ y : Ex, 1 ≤ y.mark.length
  | .mk k n t ns ys l rs a => by have := numB_pos k; simp only [Ex.mark, List.length_append]; omega
theorem Ar.mark_pos : ∀ y : Ar, 1 ≤ y.mark.length
  | .mk p b => by have := p.mark_pos; simp only [Ar.mark, List.length_append]; omega
end Go.Proofs.YtllgibfmddihgaaDoor
namespace Go.Proofs.YtllgibfmddihgaaDoor
open Go.RowKit
theorem Us.mark_pos (x : Us) : 1 ≤ x.mark.length := by have := textB_pos x.name; simp only [Us.mark, List.length_append]; omega
theorem Mk.mark_pos (x : Mk) : 1 ≤ x.mark.length := by have := textB_pos x.name; simp only [Mk.mark, List.length_append]; omega
theorem Da.mark_pos (x : Da) : 1 ≤ x.mark.length := by have := textB_pos x.name; simp only [Da.mark, List.length_append]; omega
theorem Tr.mark_pos (x : Tr) : 1 ≤ x.mark.length := by have := textB_pos x.name; simp only [Tr.mark, List.length_append]; omega
theorem Im.mark_pos (x : Im) : 1 ≤ x.mark.length := by have := textB_pos x.trait; simp only [Im.mark, List.length_append]; omega
theorem Ac.mark_pos (x : Ac) : 1 ≤ x.mark.length := by have := textB_pos x.name; simp only [Ac.mark, List.length_append]; omega
theorem Fu.mark_pos (x : Fu) : 1 ≤ x.mark.length := by have := textB_pos x.name; simp only [Fu.mark, List.length_append]; omega
end Go.Proofs.YtllgibfmddihgaaDoor
namespace Go.Proofs.YtllgibfmddihgaaDoor
open Go.RowKit
set_option maxRecDepth 100000 in
set_option maxHeartbeats 1000000 in
theorem eqStrs_af (l r : List ByteArray) : AF Tryd.prog 39 [strRow l, strRow r] (· = .lit (.bool (eqBy eqStr l r))) := by
  refine af_enter tok Tryd.func39 Tryd.ntmps39 Tryd.results39 rfl (by kernel_rfl) rfl rfl fun F hX => ?_
  repeat (first | refine gG ?_ | refine zN1 (fun hlen => ?_) | refine zN2 (fun hlen => ?_))
  refine x_cond rfl (fun h => ?_) (fun h => ?_)
  · repeat (first | refine gG ?_ | refine zN1 (fun hlen => ?_) | refine zN2 (fun hlen => ?_))
    first | refine zR ?_ | refine zQ ?_
    have : l.length ≠ r.length := by have := h; simp at this; omega
    rw [eqBy_len this]
    rfl
  · have hlr : l.length = r.length := by have := h; simp at this; omega
    clear h
    repeat (first | refine gG ?_ | refine zN1 (fun hlen => ?_) | refine zN2 (fun hlen => ?_))
    refine x_loop [4, 5, 13, 14, 15, 16, 17, 18, 19, 20, 21, 22, 23, 24, 25] (fun k : Nat => [(13, .c (.lit (.int .i64 k)))]) (fun _ => []) (fun k => k ≤ l.length ∧ eqBy eqStr l r = eqBy eqStr (l.drop k) (r.drop k)) (fun k => l.length - k) 0 ⟨Nat.zero_le _, rfl⟩ ⟨rfl, trivial⟩ rfl fun k hk => ?_
    repeat (first | refine gG ?_ | refine zN1 (fun hlen => ?_) | refine zN2 (fun hlen => ?_))
    refine x_cond rfl (fun h => ?_) (fun h => ?_)
    · have hk' : k < l.length := by simpa using h
      have hk2 : k < r.length := hlr ▸ hk'
      obtain ⟨a, ha⟩ := nth hk'
      obtain ⟨b, hb⟩ := nth hk2
      have hstep : eqBy eqStr (l.drop k) (r.drop k) = (decide (a = b) && eqBy eqStr (l.drop (k + 1)) (r.drop (k + 1))) := eqBy_step ha hb
      have h1 : (l.flatMap strTs)[k * 1]? = some (.lit (.string a)) := by rw [Nat.mul_one]; exact str_at ha
      have h2 : (r.flatMap strTs)[k * 1]? = some (.lit (.string b)) := by rw [Nat.mul_one]; exact str_at hb
      clear h
      repeat (first | refine gG ?_ | refine zN1 (fun hlen => ?_) | refine zN2 (fun hlen => ?_))
      refine ac_draw [1, 1, 1, 1, 1, 1, 1, 1, 1] [0, 1, 2, 3, 4, 5, 6, 7, 8] (by kernel_rfl) (by kernel_rfl) ?_
      refine gW ?_
      apply w_q; (focus exact rfl); (focus exact rfl); focus (intro _; (refine zIx k hk' ?_); exact det_refl)
      apply w_q; (focus exact rfl); (focus exact rfl); focus (intro _; (refine zEl1 h1 ?_); exact det_refl)
      refine gW ?_
      apply w_q; (focus exact rfl); (focus exact rfl); focus (intro _; (refine zIx k hk2 ?_); exact det_refl)
      apply w_q; (focus exact rfl); (focus exact rfl); focus (intro _; (refine zEl1 h2 ?_); exact det_refl)
      refine gW ?_
      refine w_nil ?_
      cases d1 : decide (a = b)
      · repeat (first | refine gG ?_ | refine zN1 (fun hlen => ?_) | refine zN2 (fun hlen => ?_))
        first | refine zR ?_ | refine zQ ?_
        rw [hk.2, hstep, d1]
        rfl
      · repeat (first | refine gG ?_ | refine zN1 (fun hlen => ?_) | refine zN2 (fun hlen => ?_))
        exact ⟨k + 1, ⟨hk', by rw [hk.2, hstep, d1, Bool.true_and]⟩, by omega, x_wkd 0 ⟨rfl, trivial⟩ rfl (by repeat (first | exact ag_refl | refine ag_upd rfl ?_ | refine ag_at rfl rfl ?_))⟩
    · have hk' : k = l.length := by
        have : ¬ k < l.length := by simpa using h
        omega
      repeat (first | refine gG ?_ | refine zN1 (fun hlen => ?_) | refine zN2 (fun hlen => ?_))
      first | refine zR ?_ | refine zQ ?_
      rw [hk.2, hk', List.drop_length, hlr, List.drop_length]
      rfl
end Go.Proofs.YtllgibfmddihgaaDoor
namespace Go.Proofs.YtllgibfmddihgaaDoor
open Go.RowKit
set_option maxRecDepth 100000 in
set_option maxHeartbeats 4000000 in
theorem eqTys_af (p : Y → Y → Bool) (f : FuncId) (cap : List T) (l r : List Y) (hf : ∀ a ∈ l, ∀ b ∈ r, AF Tryd.prog f (.agg (Y.ts a) :: .agg (Y.ts b) :: cap) (· = .lit (.bool (p a b)))) :
    AF Tryd.prog 81 [Y.row l, Y.row r, .fn (.func f) cap] (· = .lit (.bool (eqBy p l r))) := by
  refine af_enter tok Tryd.func81 Tryd.ntmps81 Tryd.results81 rfl (by kernel_rfl) rfl rfl fun F hX => ?_
  repeat (first | refine gG ?_ | refine zN1 (fun hlen => ?_) | refine zN2 (fun hlen => ?_) | refine zAl (fun _ => ?_))
  refine x_cond rfl (fun h => ?_) (fun h => ?_)
  · repeat (first | refine gG ?_ | refine zN1 (fun hlen => ?_) | refine zN2 (fun hlen => ?_) | refine zAl (fun _ => ?_))
    first | refine zR ?_ | refine zQ ?_
    have : l.length ≠ r.length := by have := h; simp at this; omega
    rw [eqBy_len this]
    rfl
  · have hlr : l.length = r.length := by have := h; simp at this; omega
    clear h
    repeat (first | refine gG ?_ | refine zN1 (fun hlen => ?_) | refine zN2 (fun hlen => ?_) | refine zAl (fun _ => ?_))
    refine x_loop [6, 7, 8, 9, 17, 18, 19, 20, 21, 22, 23, 24, 25, 26, 27, 28, 29, 30, 31] (fun k : Nat => [(17, .c (.lit (.int .i64 k)))]) (fun _ => []) (fun k => k ≤ l.length ∧ eqBy p l r = eqBy p (l.drop k) (r.drop k)) (fun k => l.length - k) 0 ⟨Nat.zero_le _, rfl⟩ ⟨rfl, trivial⟩ rfl fun k hk => ?_
    repeat (first | refine gG ?_ | refine zN1 (fun hlen => ?_) | refine zN2 (fun hlen => ?_) | refine zAl (fun _ => ?_))
    refine x_cond rfl (fun h => ?_) (fun h => ?_)
    · have hk' : k < l.length := by simpa using h
      have hk2 : k < r.length := hlr ▸ hk'
      obtain ⟨a, ha⟩ := nth hk'
      obtain ⟨b, hb⟩ := nth hk2
      have hp := hf a (List.mem_of_getElem? ha) b (List.mem_of_getElem? hb)
      have hstep : eqBy p (l.drop k) (r.drop k) = (p a b && eqBy p (l.drop (k + 1)) (r.drop (k + 1))) := eqBy_step ha hb
      clear h
      repeat (first | refine gG ?_ | refine zN1 (fun hlen => ?_) | refine zN2 (fun hlen => ?_) | refine zAl (fun _ => ?_))
      refine zIx (k) (hk') ?_
      repeat (first | refine gG ?_ | refine zN1 (fun hlen => ?_) | refine zN2 (fun hlen => ?_) | refine zAl (fun _ => ?_))
      refine zEl (Y.at ha) (Y.ts_len a) ?_
      generalize p a b = pq at *
      obtain ⟨k1, n1, l1⟩ := a
      obtain ⟨k1', n1', l1'⟩ := b
      repeat (first | refine gG ?_ | refine zN1 (fun hlen => ?_) | refine zN2 (fun hlen => ?_) | refine zAl (fun _ => ?_))
      refine zIx (k) (hk2) ?_
      repeat (first | refine gG ?_ | refine zN1 (fun hlen => ?_) | refine zN2 (fun hlen => ?_) | refine zAl (fun _ => ?_))
      refine zEl (Y.at hb) (Y.ts_len _) ?_
      repeat (first | refine gG ?_ | refine zN1 (fun hlen => ?_) | refine zN2 (fun hlen => ?_) | refine zAl (fun _ => ?_))
      refine zCallc hp ?_ (hx := rzs_cons (by repeat (first | exact rzs_nil | apply rzs_cons | exact rz_c | exact rz_nil rfl | apply rz_agg | exact rz_own rfl | apply rz_fn | exact rz_ptr rfl | apply rz_tup)) (rzs_cons (by repeat (first | exact rzs_nil | apply rzs_cons | exact rz_c | exact rz_nil rfl | apply rz_agg | exact rz_own rfl | apply rz_fn | exact rz_ptr rfl | apply rz_tup)) rzs_self))
      rintro _ rfl
      cases pq
      · repeat (first | refine gG ?_ | refine zN1 (fun hlen => ?_) | refine zN2 (fun hlen => ?_) | refine zAl (fun _ => ?_))
        first | refine zR ?_ | refine zQ ?_
        rw [hk.2, hstep]
        rfl
      · repeat (first | refine gG ?_ | refine zN1 (fun hlen => ?_) | refine zN2 (fun hlen => ?_) | refine zAl (fun _ => ?_))
        exact ⟨k + 1, ⟨hk', by rw [hk.2, hstep, Bool.true_and]⟩, by omega, x_wkd 0 ⟨rfl, trivial⟩ rfl (by repeat (first | exact ag_refl | refine ag_upd rfl ?_ | refine ag_at rfl rfl ?_))⟩
    · have hk' : k = l.length := by
        have : ¬ k < l.length := by simpa using h
        omega
      repeat (first | refine gG ?_ | refine zN1 (fun hlen => ?_) | refine zN2 (fun hlen => ?_) | refine zAl (fun _ => ?_))
      first | refine zR ?_ | refine zQ ?_
      rw [hk.2, hk', List.drop_length, hlr, List.drop_length]
      rfl
set_option maxRecDepth 100000 in
set_option maxHeartbeats 4000000 in
theorem sameType_af (a : Y) : ∀ b : Y, AF Tryd.prog 82 [a.t, b.t] (· = .lit (.bool (a.same b))) := by
  induction a using Y.ind with
  | h k n l ih =>
    rintro ⟨k', n', l'⟩
    have hc := eqTys_af Y.same 82 [] l l' (fun a ha b _ => ih a ha b)
    have e : (Y.mk k n l).same (.mk k' n' l') = (decide (k = k') && (decide (n = n') && eqBy Y.same l l')) := by simp [Y.same, Y.sames_eq]
    generalize (Y.mk k n l).same (.mk k' n' l') = sm at *
    generalize eqBy Y.same l l' = c1 at *
    clear ih
    refine af_enter tok Tryd.func82 Tryd.ntmps82 Tryd.results82 rfl (by kernel_rfl) rfl rfl fun F hX => ?_
    cases d0 : decide (k = k')
    · rw [d0] at e
      repeat (first | refine gG ?_ | refine zBf ?_)
      first | refine zR ?_ | refine zQ ?_
      rw [e]
      rfl
    rw [d0, Bool.true_and] at e
    cases d1 : decide (n = n')
    · rw [d1] at e
      repeat (first | refine gG ?_ | refine zBf ?_)
      first | refine zR ?_ | refine zQ ?_
      rw [e]
      rfl
    rw [d1, Bool.true_and] at e
    cases c1
    · repeat (first | refine gG ?_ | refine zBf ?_)
      refine zCall (hc) ?_
      rintro _ rfl
      repeat (first | refine gG ?_ | refine zBf ?_)
      first | refine zR ?_ | refine zQ ?_
      rw [e]
      rfl
    repeat (first | refine gG ?_ | refine zBf ?_)
    refine zCall (hc) ?_
    rintro _ rfl
    repeat (first | refine gG ?_ | refine zBf ?_)
    first | refine zR ?_ | refine zQ ?_
    rw [e]
    rfl
end Go.Proofs.YtllgibfmddihgaaDoor
namespace Go.Proofs.YtllgibfmddihgaaDoor
open Go.RowKit
def Ar.pat : Ar → V
  | .mk p _ => p
def Ar.body : Ar → Ex
  | .mk _ b => b
def Ex.arms : Ex → List Ar
  | .mk _ _ _ _ _ _ rs _ => rs
def Ex.args : Ex → List Ex
  | .mk _ _ _ _ _ l _ _ => l
def Im.bodies (i : Im) : List Ex := i.funcs.map Fu.body
def Pr.funs (p : Pr) : List Fu := p.impls.flatMap Im.funcs ++ p.funcs
def Pr.bodies (p : Pr) : List Ex := p.funs.map Fu.body ++ p.actors.map Ac.body
end Go.Proofs.YtllgibfmddihgaaDoor
namespace Go.Proofs.YtllgibfmddihgaaDoor
open Go.RowKit
mutual
def Ex.walk : Ex → List Ex
  | .mk k n t ns ys l rs a => .mk k n t ns ys l rs a :: (Ex.walks l ++ Ar.walks rs)
def Ex.walks : List Ex → List Ex
  | [] => []
  | v :: r => v.walk ++ Ex.walks r
def Ar.walks : List Ar → List Ex
  | [] => []
  | .mk _ b :: r => b.walk ++ Ar.walks r
end
end Go.Proofs.YtllgibfmddihgaaDoor
namespace Go.Proofs.YtllgibfmddihgaaDoor
open Go.RowKit
mutual
def V.nodes : V → Nat
  | .mk _ _ _ l => 1 + V.nodesAll l
def V.nodesAll : List V → Nat
  | [] => 0
  | v :: r => v.nodes + V.nodesAll r
end
def Ar.pn (a : Ar) : Nat := a.pat.nodes
def Ex.count1 (x : Ex) : Nat := 1 + (x.arms.map Ar.pn).sum
def Ex.count (e : Ex) : Nat := (e.walk.map Ex.count1).sum
def Pr.count (p : Pr) : Nat := (p.bodies.map Ex.count).sum
end Go.Proofs.YtllgibfmddihgaaDoor
namespace Go.Proofs.YtllgibfmddihgaaDoor
open Go.RowKit
theorem dec_le : ∀ (n u : Nat), u < 10 ^ (n + 1) → (Lib.decDigits u).length ≤ n + 1
  | 0, u, h => by rw [Lib.decDigits, dif_pos (by simpa using h)]; exact Nat.le_refl _
  | n + 1, u, h => by
    rw [Lib.decDigits]
    split
    · simp
    · have := dec_le n (u / 10) (by rw [Nat.pow_succ] at h; omega)
      rw [List.length_append]
      simp only [List.length_cons, List.length_nil]
      omega
theorem numB_le {n : Int} (h : inI n) : (numB n).length ≤ 21 := by
  obtain ⟨h1, h2⟩ := h
  have key : ∀ u : Nat, u ≤ 9223372036854775808 → (Lib.decDigits u).length ≤ 19 := fun u hu => dec_le 18 u (by omega)
  unfold numB Lib.itoa
  rw [List.length_append]
  split
  · rw [List.length_cons]
    have := key n.natAbs (by omega)
    simp only [List.length_cons, List.length_nil]
    first | omega | (have := key (-n).toNat (by omega); omega)
  · have := key n.natAbs (by omega)
    simp only [List.length_cons, List.length_nil]
    first | omega | (have := key n.toNat (by omega); omega)
theorem numB_far {n : Int} (h : far n ≤ 1048576) : (numB n).length ≤ 21 * far n := by
  have := numB_le (far_in h)
  have := far_pos n
  omega
theorem numB_nat {n : Nat} (h : n ≤ 1048576) : (numB (n : Int)).length ≤ 21 := numB_le (inI_nat (by omega))
theorem textB_le {s : ByteArray} (h : s.size ≤ 1048576) : (textB s).length ≤ 21 * (s.size + 1) := by
  have h1 := numB_nat h
  have h2 : s.data.toList.length = s.size := rfl
  rw [textB, List.length_append]
  omega
theorem flat21 {α : Type} (f : α → List UInt8) (μ : α → Nat) : ∀ l : List α, (∀ a ∈ l, (f a).length ≤ 21 * μ a) → (l.flatMap f).length ≤ 21 * (l.map μ).sum
  | [], _ => Nat.le_refl _
  | a :: l, h => by
    have h1 := h a (by simp)
    have h2 := flat21 f μ l (fun x hx => h x (List.mem_cons_of_mem _ hx))
    rw [List.flatMap_cons, List.length_append, List.map_cons, List.sum_cons]
    omega
theorem textsB_le {l : List ByteArray} (h : strSize l ≤ 1048576) : (textsB l).length ≤ 21 * strSize l :=
  flat21 textB (fun s => s.size + 1) l fun a ha => textB_le (by have := sum_mem' (fun s : ByteArray => s.size + 1) ha; unfold strSize at h; omega)
theorem namesB_le {l : List ByteArray} (h : strSize l ≤ 1048576) : (namesB l).length ≤ 21 * (strSize l + 1) := by
  have h1 := textsB_le h
  have h2 := numB_nat (Nat.le_trans (strSize_len l) h)
  rw [namesB, List.length_append]
  omega
theorem Y.mass_pos (v : Y) : 1 ≤ v.mass := by cases v; rename_i k _ _; have := far_pos k; simp only [Y.mass]; omega
theorem V.mass_pos (v : V) : 1 ≤ v.mass := by cases v; rename_i k _ _ _; have := far_pos k; simp only [V.mass]; omega
theorem Ex.mass_pos (v : Ex) : 1 ≤ v.mass := by cases v; rename_i k _ _ _ _ _ _ _; have := far_pos k; simp only [Ex.mass]; omega
theorem Ar.mass_pos (v : Ar) : 1 ≤ v.mass := by cases v; rename_i p _; have := V.mass_pos p; simp only [Ar.mass]; omega
theorem Y.mark_le (v : Y) : v.mass ≤ 1048576 → v.mark.length ≤ 21 * v.mass := by
  induction v using Y.ind with
  | h k n l ih =>
    intro h
    simp only [Y.mass, Y.masses_sum] at h ⊢
    have h1 := flat21 Y.mark Y.mass l (fun x hx => ih x hx (by have := sum_mem' Y.mass hx; omega))
    have h2 := numB_nat (n := l.length) (by have := len_sum' Y.mass Y.mass_pos l; omega)
    have h3 := numB_far (n := k) (by omega)
    have h4 := textB_le (s := n) (by omega)
    simp only [Y.mark, Y.marks_eq, List.length_append]
    omega
theorem V.mark_le (v : V) : v.mass ≤ 1048576 → v.mark.length ≤ 21 * v.mass := by
  induction v using V.ind with
  | h k n t l ih =>
    intro h
    simp only [V.mass, V.masses_sum] at h ⊢
    have h1 := flat21 V.mark V.mass l (fun x hx => ih x hx (by have := sum_mem' V.mass hx; omega))
    have h2 := numB_nat (n := l.length) (by have := len_sum' V.mass V.mass_pos l; omega)
    have h3 := numB_far (n := k) (by omega)
    have h5 := numB_far (n := n) (by omega)
    have h4 := textB_le (s := t) (by omega)
    simp only [V.mark, V.marks_eq, List.length_append]
    omega
theorem Ex.mark_le (v : Ex) : v.mass ≤ 1048576 → v.mark.length ≤ 21 * v.mass := by
  induction v using Ex.ind with
  | h k n t ns ys l rs a ih1 ih2 =>
    intro h
    simp only [Ex.mass, Ex.masses_sum, Ar.masses_sum, Y.masses_sum] at h ⊢
    have h1 := numB_far (n := k) (by omega)
    have h2 := numB_far (n := n) (by omega)
    have h3 := textB_le (s := t) (by omega)
    have h4 := textsB_le (l := ns) (by omega)
    have h5 := flat21 Y.mark Y.mass ys (fun x hx => Y.mark_le x (by have := sum_mem' Y.mass hx; omega))
    have h6 := flat21 Ex.mark Ex.mass l (fun x hx => ih1 x hx (by have := sum_mem' Ex.mass hx; omega))
    have h7 := flat21 Ar.mark Ar.mass rs (fun x hx => by
      have h2 := sum_mem' Ar.mass hx
      obtain ⟨p, b⟩ := x
      simp only [Ar.mass] at h2
      have h8 := p.mark_le (by omega)
      have h9 := ih2 _ hx p b rfl (by omega)
      simp only [Ar.mark, Ar.mass, List.length_append]
      omega)
    have g1 := numB_nat (n := ns.length) (by have := strSize_len ns; omega)
    have g2 := numB_nat (n := ys.length) (by have := len_sum' Y.mass Y.mass_pos ys; omega)
    have g3 := numB_nat (n := l.length) (by have := len_sum' Ex.mass Ex.mass_pos l; omega)
    have g4 := numB_nat (n := rs.length) (by have := len_sum' Ar.mass Ar.mass_pos rs; omega)
    simp only [Ex.mark, Ex.marks_eq, Ar.marks_eq, List.length_append]
    omega
theorem typesB_le {l : List Y} (h : (l.map Y.mass).sum ≤ 1048576) : (typesB l).length ≤ 21 * ((l.map Y.mass).sum + 1) := by
  have h1 := flat21 Y.mark Y.mass l (fun x hx => Y.mark_le x (by have := sum_mem' Y.mass hx; omega))
  have h2 := numB_nat (n := l.length) (by have := len_sum' Y.mass Y.mass_pos l; omega)
  rw [typesB, List.length_append]
  omega
theorem Us.mass_pos (v : Us) : 1 ≤ v.mass := by unfold Us.mass; omega
theorem Mk.mass_pos (v : Mk) : 1 ≤ v.mass := by unfold Mk.mass; omega
theorem Da.mass_pos (v : Da) : 1 ≤ v.mass := by unfold Da.mass; omega
theorem Fu.mass_pos (v : Fu) : 1 ≤ v.mass := by unfold Fu.mass; omega
theorem Tr.mass_pos (v : Tr) : 1 ≤ v.mass := by unfold Tr.mass; omega
theorem Im.mass_pos (v : Im) : 1 ≤ v.mass := by unfold Im.mass; omega
theorem Ac.mass_pos (v : Ac) : 1 ≤ v.mass := by unfold Ac.mass; omega
theorem Us.mark_le (v : Us) (h : v.mass ≤ 1048576) : v.mark.length ≤ 21 * v.mass := by
  unfold Us.mass at h ⊢
  have h1 := textB_le (s := v.name) (by omega)
  have h2 := numB_far (n := v.low) (by omega)
  have h3 := numB_far (n := v.high) (by omega)
  simp only [Us.mark, List.length_append]
  omega
theorem Mk.mark_le (v : Mk) (h : v.mass ≤ 1048576) : v.mark.length ≤ 21 * v.mass := by
  unfold Mk.mass at h ⊢
  have h1 := textB_le (s := v.name) (by omega)
  have h2 := typesB_le (l := v.args) (by omega)
  simp only [Mk.mark, List.length_append]
  omega
theorem Da.mark_le (v : Da) (h : v.mass ≤ 1048576) : v.mark.length ≤ 21 * v.mass := by
  unfold Da.mass at h ⊢
  have h1 := textB_le (s := v.name) (by omega)
  have h2 := namesB_le (l := v.params) (by omega)
  have h3 := flat21 Mk.mark Mk.mass v.makes (fun x hx => Mk.mark_le x (by have := sum_mem' Mk.mass hx; omega))
  have h4 := numB_nat (n := v.makes.length) (by have := len_sum' Mk.mass Mk.mass_pos v.makes; omega)
  simp only [Da.mark, List.length_append]
  omega
theorem Fu.mark_le (v : Fu) (h : v.mass ≤ 1048576) : v.mark.length ≤ 21 * v.mass := by
  unfold Fu.mass at h ⊢
  have h1 := textB_le (s := v.name) (by omega)
  have h2 := namesB_le (l := v.params) (by omega)
  have h3 := namesB_le (l := v.names) (by omega)
  have h4 := typesB_le (l := v.types) (by omega)
  have h5 := v.out.mark_le (by omega)
  have h6 := v.body.mark_le (by omega)
  simp only [Fu.mark, List.length_append]
  omega
theorem funcsB_le {l : List Fu} (h : (l.map Fu.mass).sum ≤ 1048576) : (funcsB l).length ≤ 21 * ((l.map Fu.mass).sum + 1) := by
  have h1 := flat21 Fu.mark Fu.mass l (fun x hx => Fu.mark_le x (by have := sum_mem' Fu.mass hx; omega))
  have h2 := numB_nat (n := l.length) (by have := len_sum' Fu.mass Fu.mass_pos l; omega)
  rw [funcsB, List.length_append]
  omega
theorem Tr.mark_le (v : Tr) (h : v.mass ≤ 1048576) : v.mark.length ≤ 21 * v.mass := by
  unfold Tr.mass at h ⊢
  have h1 := textB_le (s := v.name) (by omega)
  have h2 := funcsB_le (l := v.funcs) (by omega)
  simp only [Tr.mark, List.length_append]
  omega
theorem Im.mark_le (v : Im) (h : v.mass ≤ 1048576) : v.mark.length ≤ 21 * v.mass := by
  unfold Im.mass at h ⊢
  have h1 := textB_le (s := v.trait) (by omega)
  have h3 := textB_le (s := v.dat) (by omega)
  have h2 := funcsB_le (l := v.funcs) (by omega)
  simp only [Im.mark, List.length_append]
  omega
theorem Ac.mark_le (v : Ac) (h : v.mass ≤ 1048576) : v.mark.length ≤ 21 * v.mass := by
  unfold Ac.mass at h ⊢
  have h1 := textB_le (s := v.name) (by omega)
  have h3 := namesB_le (l := v.names) (by omega)
  have h4 := typesB_le (l := v.types) (by omega)
  have h5 := v.msg.mark_le (by omega)
  have h6 := v.body.mark_le (by omega)
  simp only [Ac.mark, List.length_append]
  omega
theorem Pr.mark_le (v : Pr) (h : v.mass ≤ 1048576) : v.mark.length ≤ 21 * v.mass := by
  unfold Pr.mass at h ⊢
  have h1 := textB_le (s := v.name) (by omega)
  have h2 := numB_far (n := v.version) (by omega)
  have h3 := flat21 Us.mark Us.mass v.uses (fun x hx => Us.mark_le x (by have := sum_mem' Us.mass hx; omega))
  have h4 := flat21 Da.mark Da.mass v.datas (fun x hx => Da.mark_le x (by have := sum_mem' Da.mass hx; omega))
  have h5 := flat21 Tr.mark Tr.mass v.traits (fun x hx => Tr.mark_le x (by have := sum_mem' Tr.mass hx; omega))
  have h6 := flat21 Im.mark Im.mass v.impls (fun x hx => Im.mark_le x (by have := sum_mem' Im.mass hx; omega))
  have h7 := funcsB_le (l := v.funcs) (by omega)
  have h8 := flat21 Ac.mark Ac.mass v.actors (fun x hx => Ac.mark_le x (by have := sum_mem' Ac.mass hx; omega))
  have g1 := numB_nat (n := v.uses.length) (by have := len_sum' Us.mass Us.mass_pos v.uses; omega)
  have g2 := numB_nat (n := v.datas.length) (by have := len_sum' Da.mass Da.mass_pos v.datas; omega)
  have g3 := numB_nat (n := v.traits.length) (by have := len_sum' Tr.mass Tr.mass_pos v.traits; omega)
  have g4 := numB_nat (n := v.impls.length) (by have := len_sum' Im.mass Im.mass_pos v.impls; omega)
  have g5 := numB_nat (n := v.actors.length) (by have := len_sum' Ac.mass Ac.mass_pos v.actors; omega)
  simp only [Pr.mark, List.length_append]
  omega
theorem sumle {α : Type} (f g : α → Nat) : ∀ l : List α, (∀ a ∈ l, f a ≤ g a) → (l.map f).sum ≤ (l.map g).sum
  | [], _ => Nat.le_refl _
  | a :: l, h => by
    have h1 := h a (by simp)
    have h2 := sumle f g l (fun x hx => h x (List.mem_cons_of_mem _ hx))
    rw [List.map_cons, List.sum_cons, List.map_cons, List.sum_cons]
    omega
theorem fsum (l : List Im) : ((l.flatMap Im.funcs).map Fu.mass).sum ≤ (l.map Im.mass).sum := by
  induction l with
  | nil => exact Nat.le_refl _
  | cons a l ih => simp only [List.flatMap_cons, List.map_append, List.sum_append, List.map_cons, List.sum_cons, Im.mass]; omega
theorem Pr.masses (p : Pr) : (p.bodies.map Ex.mass).sum ≤ p.mass := by
  have h1 := fsum p.impls
  have h2 := sumle (fun f : Fu => f.body.mass) Fu.mass p.funs (fun f _ => by unfold Fu.mass; omega)
  have h3 := sumle (fun f : Ac => f.body.mass) Ac.mass p.actors (fun f _ => by unfold Ac.mass; omega)
  have e1 : (p.funs.map Fu.mass).sum = ((p.impls.flatMap Im.funcs).map Fu.mass).sum + (p.funcs.map Fu.mass).sum := by rw [Pr.funs, List.map_append, List.sum_append]
  rw [Pr.bodies, List.map_append, List.sum_append, List.map_map, List.map_map]
  unfold Pr.mass
  have e2 : (Ex.mass ∘ Fu.body) = fun f : Fu => f.body.mass := rfl
  have e3 : (Ex.mass ∘ Ac.body) = fun f : Ac => f.body.mass := rfl
  rw [e2, e3]
  omega
end Go.Proofs.YtllgibfmddihgaaDoor
namespace Go.Proofs.YtllgibfmddihgaaDoor
open Go.RowKit
def needs (k n : Int) (a : Nat) : Int :=
  bif decide (k = 1) || decide (k = 2) || decide (k = 3) || decide (k = 4) || decide (k = 5) || decide (k = 16) then 0 else bif decide (k = 10) || decide (k = 13) || decide (k = 19) || decide (k = 20) || decide (k = 21) || decide (k = 22) || decide (k = 24) || decide (k = 25) then 1 else bif decide (k = 6) || decide (k = 15) || decide (k = 23) then 2 else bif decide (k = 7) then 3 else bif decide (k = 18) then (bif decide (n < 0) then 0 else 1) else bif decide (k = 8) || decide (k = 9) || decide (k = 12) || decide (k = 14) || decide (k = 17) then (a : Int) else bif decide (k = 11) then ((max a 1 : Nat) : Int) else -1
def Ex.needs : Ex → Int
  | .mk k n _ _ _ l _ _ => Go.Proofs.YtllgibfmddihgaaDoor.needs k n l.length
end Go.Proofs.YtllgibfmddihgaaDoor
namespace Go.Proofs.YtllgibfmddihgaaDoor
open Go.RowKit
mutual
def V.binds : V → List ByteArray
  | .mk k _ t l => bif decide (k = 2) then [t] else bif decide (k = 6) then V.bindsAll l else []
def V.bindsAll : List V → List ByteArray
  | [] => []
  | v :: r => v.binds ++ V.bindsAll r
end
end Go.Proofs.YtllgibfmddihgaaDoor
namespace Go.Proofs.YtllgibfmddihgaaDoor
open Go.RowKit
mutual
def Ex.clear : Ex → Ex
  | .mk k n t ns ys l rs _ => .mk k n t ns ys (Ex.clears l) (Ar.clears rs) 0
def Ex.clears : List Ex → List Ex
  | [] => []
  | v :: r => v.clear :: Ex.clears r
def Ar.clears : List Ar → List Ar
  | [] => []
  | .mk p b :: r => .mk p b.clear :: Ar.clears r
end
def Ar.clear : Ar → Ar
  | .mk p b => .mk p b.clear
end Go.Proofs.YtllgibfmddihgaaDoor
namespace Go.Proofs.YtllgibfmddihgaaDoor
open Go.RowKit
def Ex.pos : Ex → Int
  | .mk _ _ _ _ _ _ _ p => p
end Go.Proofs.YtllgibfmddihgaaDoor
namespace Go.Proofs.YtllgibfmddihgaaDoor
open Go.RowKit
def hasS (l : List ByteArray) (s : ByteArray) : Bool := l.any fun x => decide (x = s)
theorem hasS_app (l r : List ByteArray) (s : ByteArray) : hasS (l ++ r) s = (hasS l s || hasS r s) := by simp [hasS]
/-- what is neither in names nor yet in out is put behind, one after the other -/
def addS (names : List ByteArray) : List ByteArray → List ByteArray → List ByteArray
  | out, [] => out
  | out, s :: r => addS names (bif hasS names s || hasS out s then out else out ++ [s]) r
theorem hasS_one (x s : ByteArray) : hasS [x] s = decide (x = s) := by simp [hasS]
end Go.Proofs.YtllgibfmddihgaaDoor
namespace Go.Proofs.YtllgibfmddihgaaDoor
open Go.RowKit
/-- the names that mean something in the i-th part -/
def inner (k : Int) (t : ByteArray) (ns : List ByteArray) (i : Nat) : List ByteArray := bif decide (k = 10) then ns else bif decide (k = 6) && decide ((i : Int) = 1) then [t] else []
def gather (B : List ByteArray) : List ByteArray → List (List ByteArray × List ByteArray) → List ByteArray
  | out, [] => out
  | out, p :: r => gather B (addS (B ++ p.1) out p.2) r
theorem addS_len (N : List ByteArray) : ∀ (L out : List ByteArray), (addS N out L).length ≤ out.length + L.length
  | [], out => by simp [addS]
  | s :: L, out => by
    rw [addS]
    have := addS_len N L (bif hasS N s || hasS out s then out else out ++ [s])
    have h2 : (bif hasS N s || hasS out s then out else out ++ [s]).length ≤ out.length + 1 := by
      cases hasS N s || hasS out s <;> simp
    rw [List.length_cons]
    omega
theorem gather_len (B : List ByteArray) : ∀ (ps : List (List ByteArray × List ByteArray)) (out : List ByteArray), (gather B out ps).length ≤ out.length + (ps.map fun p => p.2.length).sum
  | [], out => by simp [gather]
  | p :: ps, out => by
    rw [gather]
    have := gather_len B ps (addS (B ++ p.1) out p.2)
    have h2 := addS_len (B ++ p.1) p.2 out
    rw [List.map_cons, List.sum_cons]
    omega
def scopes (k : Int) (t : ByteArray) (ns : List ByteArray) : Nat → List (List ByteArray) → List (List ByteArray × List ByteArray)
  | _, [] => []
  | i, L :: r => (inner k t ns i, L) :: scopes k t ns (i + 1) r
theorem scopes_snd (k : Int) (t : ByteArray) (ns : List ByteArray) : ∀ (l : List (List ByteArray)) (i : Nat), (scopes k t ns i l).map (fun p => p.2.length) = l.map List.length
  | [], _ => rfl
  | x :: l, i => by rw [scopes, List.map_cons, scopes_snd k t ns l, List.map_cons]
def partsOf (k n : Int) (t : ByteArray) (ns : List ByteArray) (l : List (List ByteArray)) (rs : List (List ByteArray × List ByteArray)) : List (List ByteArray × List ByteArray) :=
  bif decide ((l.length : Int) < needs k n l.length) then l.map (fun L => ([], L)) else scopes k t ns 0 (l.take (needs k n l.length).toNat) ++ (bif decide (k = 13) || decide (k = 18) then rs else [])
mutual
def Ex.free : Ex → List ByteArray
  | .mk k n t ns _ l rs _ => bif decide (k = 5) then [t] else gather [] [] (partsOf k n t ns (Ex.frees l) (Ar.frees rs))
def Ex.frees : List Ex → List (List ByteArray)
  | [] => []
  | v :: r => v.free :: Ex.frees r
def Ar.frees : List Ar → List (List ByteArray × List ByteArray)
  | [] => []
  | .mk p b :: r => (p.binds, b.free) :: Ar.frees r
end
def Ar.free (r : Ar) : List ByteArray × List ByteArray := (r.pat.binds, r.body.free)
theorem Ex.frees_eq : ∀ l : List Ex, Ex.frees l = l.map Ex.free
  | [] => rfl
  | v :: l => by rw [Ex.frees, Ex.frees_eq l]; rfl
theorem Ar.frees_eq : ∀ l : List Ar, Ar.frees l = l.map Ar.free
  | [] => rfl
  | .mk p b :: l => by rw [Ar.frees, Ar.frees_eq l]; rfl
theorem sum_le_of {α : Type} {f g : α → Nat} : ∀ {l : List α}, (∀ a ∈ l, f a ≤ g a) → (l.map f).sum ≤ (l.map g).sum
  | [], _ => Nat.le_refl _
  | a :: l, h => by
    have := h a (by simp)
    have := sum_le_of (l := l) (fun x hx => h x (List.mem_cons_of_mem _ hx))
    simp only [List.map_cons, List.sum_cons]
    omega
theorem sum_take_le {α : Type} (f : α → Nat) : ∀ (l : List α) (k : Nat), ((l.take k).map f).sum ≤ (l.map f).sum
  | [], k => by simp
  | a :: l, 0 => by simp
  | a :: l, k + 1 => by have := sum_take_le f l k; simp only [List.take_succ_cons, List.map_cons, List.sum_cons]; omega
theorem partsOf_le (k n : Int) (t : ByteArray) (ns : List ByteArray) (l : List (List ByteArray)) (rs : List (List ByteArray × List ByteArray)) : ((partsOf k n t ns l rs).map fun p => p.2.length).sum ≤ (l.map List.length).sum + (rs.map fun p => p.2.length).sum := by
  unfold partsOf
  cases decide ((l.length : Int) < needs k n l.length) with
  | true => simp only [cond]; rw [List.map_map]; exact Nat.le_add_right _ _
  | false =>
    simp only [cond]
    rw [List.map_append, List.sum_append, scopes_snd]
    have := sum_take_le List.length l (needs k n l.length).toNat
    cases decide (k = 13) || decide (k = 18) with
    | true => simp only []; omega
    | false => simp only [List.map_nil, List.sum_nil]; omega
theorem Ex.free_len (e : Ex) : e.free.length ≤ e.mass := by
  induction e using Ex.ind with
  | h k n t ns ys l rs p ih ihr =>
    have h1 := sum_le_of ih
    have h2 : (rs.map fun r => r.free.2.length).sum ≤ (rs.map Ar.mass).sum := sum_le_of fun r hr => by
      obtain ⟨q, b⟩ := r
      have := ihr _ hr q b rfl
      rw [Ar.mass]
      exact Nat.le_trans this (Nat.le_add_left _ _)
    rw [Ex.free, Ex.mass, Ex.masses_sum, Ar.masses_sum]
    cases decide (k = 5) with
    | true => simp only [cond, List.length_singleton]; have := far_pos k; omega
    | false =>
      simp only [cond]
      have h3 := gather_len [] (partsOf k n t ns (Ex.frees l) (Ar.frees rs)) []
      have h4 := partsOf_le k n t ns (Ex.frees l) (Ar.frees rs)
      rw [Ex.frees_eq, Ar.frees_eq, List.map_map, List.map_map] at h4
      rw [Ex.frees_eq, Ar.frees_eq] at h3
      simp only [List.length_nil, Nat.zero_add, Function.comp_def] at h3 h4 ⊢
      rw [Ex.frees_eq, Ar.frees_eq]
      omega
/-- the maps say what is gathered, and how often a name is bound -/
def SeenOk (m : List (ByteArray × T)) (out : List ByteArray) : Prop := ∀ s, (mget s m).getD (.lit (.bool false)) = .lit (.bool (hasS out s))
def times (s : ByteArray) (B : List ByteArray) : Nat := (B.filter fun x => decide (x = s)).length
def BndOk (m : List (ByteArray × T)) (B : List ByteArray) : Prop := ∀ s, (mget s m).getD (.lit (.int .i64 0)) = .lit (.int .i64 (times s B : Nat))
theorem SeenOk.put {m : List (ByteArray × T)} {out : List ByteArray} (h : SeenOk m out) (s : ByteArray) : SeenOk (mput s (.lit (.bool true)) m) (out ++ [s]) := by
  intro x
  rw [mget_put, hasS_app, hasS_one]
  by_cases hx : x = s
  · subst hx; simp
  · rw [if_neg hx, h x]; simp [Ne.symm hx]
theorem BndOk.put {m : List (ByteArray × T)} {B B' : List ByteArray} (h : BndOk m B) (s : ByteArray) (z : Int) (hz : z = (times s B' : Nat)) (hB : ∀ x, x ≠ s → times x B' = times x B) : BndOk (mput s (.lit (.int .i64 z)) m) B' := by
  intro x
  rw [mget_put]
  by_cases hx : x = s
  · subst hx; simp [hz]
  · rw [if_neg hx, h x, hB x hx]
def pa (a : Ex) : List ByteArray × List ByteArray := ([], a.free)
end Go.Proofs.YtllgibfmddihgaaDoor
namespace Go.Proofs.YtllgibfmddihgaaDoor
open Go.RowKit
/-- the place of a name among names -/
def posOf (s : ByteArray) (l : List ByteArray) : Int := idxI (fun x => decide (s = x)) l
set_option maxRecDepth 100000 in
set_option maxHeartbeats 1000000 in
theorem idxStr_af (l : List ByteArray) (s : ByteArray) : AF Tryd.prog 126 [strRow l, .lit (.string s)] (· = .lit (.int .i64 (posOf s l))) := by
  refine af_enter tok Tryd.func126 Tryd.ntmps126 Tryd.results126 rfl (by kernel_rfl) rfl rfl fun F hX => ?_
  repeat (first | refine gG ?_ | refine zN1 (fun hlen => ?_) | refine zN2 (fun hlen => ?_))
  refine x_loop [4, 5, 8, 9, 10, 11, 12, 13, 14, 15, 16, 17, 18] (fun k : Nat => [(8, .c (.lit (.int .i64 k)))]) (fun _ => []) (fun k => k ≤ l.length ∧ idxAt (fun x => decide (s = x)) l k) (fun k => l.length - k) 0 ⟨Nat.zero_le _, idxAt_zero _ l⟩ ⟨rfl, trivial⟩ rfl fun k hk => ?_
  repeat (first | refine gG ?_ | refine zN1 (fun hlen => ?_) | refine zN2 (fun hlen => ?_))
  refine x_cond rfl (fun h => ?_) (fun h => ?_)
  · have hk' : k < l.length := by simpa using h
    obtain ⟨a, ha⟩ := nth hk'
    have hat := str_at ha
    rw [← Nat.mul_one k] at hat
    repeat (first | refine gG ?_ | refine zN1 (fun hlen => ?_) | refine zN2 (fun hlen => ?_))
    refine zIx k hk' ?_
    repeat (first | refine gG ?_ | refine zN1 (fun hlen => ?_) | refine zN2 (fun hlen => ?_))
    refine zEl1 hat ?_
    cases hp : decide (s = a)
    · repeat (first | refine gG ?_ | refine zN1 (fun hlen => ?_) | refine zN2 (fun hlen => ?_))
      exact ⟨k + 1, ⟨hk', idxAt_no hk.2 ha hp⟩, by omega, x_wkd 0 ⟨rfl, trivial⟩ rfl (by repeat (first | exact ag_refl | refine ag_upd rfl ?_ | refine ag_at rfl rfl ?_))⟩
    · repeat (first | refine gG ?_ | refine zN1 (fun hlen => ?_) | refine zN2 (fun hlen => ?_))
      first | refine zR ?_ | refine zQ ?_
      rw [posOf, idxAt_yes hk.2 ha hp]; rfl
  · have hk' : k = l.length := by have : ¬ k < l.length := by simpa using h
                                  omega
    subst hk'
    repeat (first | refine gG ?_ | refine zN1 (fun hlen => ?_) | refine zN2 (fun hlen => ?_))
    first | refine zR ?_ | refine zQ ?_
    rw [posOf, idxAt_end hk.2]; rfl
theorem has_pos (s : ByteArray) (l : List ByteArray) : decide (0 ≤ posOf s l) = hasS l s := by
  rw [posOf, idxI_any, hasS]
  congr 1
  funext x
  exact decide_eq_decide.2 eq_comm
set_option maxRecDepth 100000 in
set_option maxHeartbeats 1000000 in
theorem contains_af (l : List ByteArray) (s : ByteArray) : AF Tryd.prog 38 [strRow l, .lit (.string s)] (· = .lit (.bool (hasS l s))) := by
  have hc := idxStr_af l s
  have hh := has_pos s l
  generalize posOf s l = p at *
  refine af_enter tok Tryd.func38 Tryd.ntmps38 Tryd.results38 rfl (by kernel_rfl) rfl rfl fun F hX => ?_
  repeat (first | refine gG ?_)
  refine zCall (hc) ?_
  rintro _ rfl
  repeat (first | refine gG ?_)
  first | refine zR ?_ | refine zQ ?_
  rw [← hh]
  rfl
abbrev Sd := Ex × List ByteArray
def Sd.ts (p : Sd) : List T := p.1.ts ++ [strRow p.2]
theorem Sd.ts_len (p : Sd) : (Sd.ts p).length = 9 := by rw [Sd.ts, List.length_append, Ex.ts_len]; rfl
def Sd.row (l : List Sd) : T := .row l.length 9 (l.flatMap Sd.ts)
theorem Sd.at {l : List Sd} {k : Nat} {p : Sd} (h : l[k]? = some p) : ((l.flatMap Sd.ts).drop (k * 9)).take 9 = Sd.ts p := flat_at Sd.ts 9 Sd.ts_len h
end Go.Proofs.YtllgibfmddihgaaDoor
namespace Go.Proofs.YtllgibfmddihgaaDoor
open Go.RowKit
theorem drop_flat {α β : Type} {f : α → List β} {sz : Nat} (hf : ∀ a, (f a).length = sz) : ∀ (m : Nat) (l : List α), (l.flatMap f).drop (m * sz) = (l.drop m).flatMap f
  | 0, l => by simp
  | m + 1, [] => by simp
  | m + 1, a :: l => by
    rw [List.flatMap_cons, List.drop_succ_cons, ← drop_flat hf m l, show (m + 1) * sz = (f a).length + m * sz by rw [hf a, Nat.succ_mul]; omega, List.drop_length_add_append]
theorem take_flat {α β : Type} {f : α → List β} {sz : Nat} (hf : ∀ a, (f a).length = sz) : ∀ (m : Nat) (l : List α), (l.flatMap f).take (m * sz) = (l.take m).flatMap f
  | 0, l => by simp
  | m + 1, [] => by simp
  | m + 1, a :: l => by
    rw [List.flatMap_cons, List.take_succ_cons, List.flatMap_cons, ← take_flat hf m l, show (m + 1) * sz = (f a).length + m * sz by rw [hf a, Nat.succ_mul]; omega, List.take_length_add_append]
theorem len_flat {α β : Type} {f : α → List β} {sz : Nat} (hf : ∀ a, (f a).length = sz) (l : List α) : (l.flatMap f).length = l.length * sz := by
  induction l with
  | nil => simp
  | cons a l ih => rw [List.flatMap_cons, List.length_append, ih, hf a, List.length_cons, Nat.succ_mul]; omega
end Go.Proofs.YtllgibfmddihgaaDoor
