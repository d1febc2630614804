/-
  Texts of this proof, part 6: Tmz Tma Tmf Tmh Tmi Tmj Tmk Tnd Tni Tnj Tnk.
-/
import Derived.Test.YtldhlbjengpdbaaQScopeSays5
import Derived.Laws.IdiomRangeMap
import Derived.Laws.StructEq
import Derived.Lib.AppendStr
import Derived.Lib.ItoaNum
import Derived.Lib.MinMax
namespace Go.Proofs.Ytldhlbjengpdbaa
open Go.RowKit
def inI (n : Int) : Prop := -9223372036854775808 ≤ n ∧ n ≤ 9223372036854775807
instance (n : Int) : Decidable (inI n) := by unfold inI; infer_instance
/-- a number, heavy where it is out of range -/
def far (n : Int) : Nat := if inI n then 1 else 1099511627776
theorem far_pos (n : Int) : 1 ≤ far n := by unfold far; split <;> omega
mutual
def Y.mass : Y → Nat
  | .mk k n l => far k + (n.size + 1) + (Y.masses l + 1)
def Y.masses : List Y → Nat
  | [] => 0
  | v :: r => v.mass + Y.masses r
end
mutual
def Y.ok : Y → Prop
  | .mk k _ l => inI k ∧ Y.oks l
def Y.oks : List Y → Prop
  | [] => True
  | v :: r => v.ok ∧ Y.oks r
end
theorem Y.masses_sum : ∀ l : List Y, Y.masses l = (l.map Y.mass).sum
  | [] => rfl
  | v :: l => by simp [Y.masses, Y.masses_sum l]
theorem V.size_pos : ∀ v : V, 1 ≤ v.size
  | .mk _ _ _ _ => by simp only [V.size]; omega
mutual
def V.mass : V → Nat
  | .mk k n t l => far k + far n + (t.size + 1) + (V.masses l + 1)
def V.masses : List V → Nat
  | [] => 0
  | v :: r => v.mass + V.masses r
end
mutual
def V.ok : V → Prop
  | .mk k n _ l => inI k ∧ inI n ∧ V.oks l
def V.oks : List V → Prop
  | [] => True
  | v :: r => v.ok ∧ V.oks r
end
theorem V.masses_sum : ∀ l : List V, V.masses l = (l.map V.mass).sum
  | [] => rfl
  | v :: l => by simp [V.masses, V.masses_sum l]
mutual
def Ex.mass : Ex → Nat
  | .mk k n t ns ys l rs a => far k + far n + (t.size + 1) + (strSize ns + 1) + (Y.masses ys + 1) + (Ex.masses l + 1) + (Ar.masses rs + 1) + far a
def Ex.masses : List Ex → Nat
  | [] => 0
  | v :: r => v.mass + Ex.masses r
def Ar.mass : Ar → Nat
  | .mk p b => p.mass + b.mass
def Ar.masses : List Ar → Nat
  | [] => 0
  | v :: r => v.mass + Ar.masses r
end
mutual
def Ex.ok : Ex → Prop
  | .mk k n _ _ ys l rs a => inI k ∧ inI n ∧ Y.oks ys ∧ Ex.oks l ∧ Ar.oks rs ∧ inI a
def Ex.oks : List Ex → Prop
  | [] => True
  | v :: r => v.ok ∧ Ex.oks r
def Ar.ok : Ar → Prop
  | .mk p b => p.ok ∧ b.ok
def Ar.oks : List Ar → Prop
  | [] => True
  | v :: r => v.ok ∧ Ar.oks r
end
theorem Ex.masses_sum : ∀ l : List Ex, Ex.masses l = (l.map Ex.mass).sum
  | [] => rfl
  | v :: l => by simp [Ex.masses, Ex.masses_sum l]
theorem Ar.masses_sum : ∀ l : List Ar, Ar.masses l = (l.map Ar.mass).sum
  | [] => rfl
  | v :: l => by simp [Ar.masses, Ar.masses_sum l]
theorem Ex.ind {P : Ex → Prop} (h : ∀ k n t ns ys l rs a, (∀ v ∈ l, P v) → (∀ r ∈ rs, ∀ p b, r = Ar.mk p b → P b) → P (.mk k n t ns ys l rs a)) : ∀ v, P v := by
  have : ∀ (N : Nat) (v : Ex), v.size ≤ N → P v := by
    intro N
    induction N with
    | zero => intro v hv; have := v.size_pos; omega
    | succ N ih =>
      intro v hv
      cases v with
      | mk k n t ns ys l rs a =>
        simp only [Ex.size] at hv
        refine h k n t ns ys l rs a (fun x hx => ih x ?_) (fun r hr p b e => ih b ?_)
        · have := Ex.size_mem hx
          omega
        · have := Ar.size_mem hr
          subst e
          have hp := p.size_pos
          simp only [Ar.size] at this
          omega
  exact fun v => this v.size v (Nat.le_refl _)
def Us.mass (x : Us) : Nat := (x.name.size + 1) + far x.low + far x.high
def Us.ok (x : Us) : Prop := inI x.low ∧ inI x.high
def Mk.mass (x : Mk) : Nat := (x.name.size + 1) + ((x.args.map Y.mass).sum + 1)
def Mk.ok (x : Mk) : Prop := (∀ a ∈ x.args, a.ok)
def Da.mass (x : Da) : Nat := (x.name.size + 1) + (strSize x.params + 1) + ((x.makes.map Mk.mass).sum + 1)
def Da.ok (x : Da) : Prop := (∀ a ∈ x.makes, a.ok)
def Fu.mass (x : Fu) : Nat := (x.name.size + 1) + (strSize x.params + 1) + (strSize x.names + 1) + ((x.types.map Y.mass).sum + 1) + x.out.mass + x.body.mass
def Fu.ok (x : Fu) : Prop := (∀ a ∈ x.types, a.ok) ∧ x.out.ok ∧ x.body.ok
def Tr.mass (x : Tr) : Nat := (x.name.size + 1) + ((x.funcs.map Fu.mass).sum + 1)
def Tr.ok (x : Tr) : Prop := (∀ a ∈ x.funcs, a.ok)
def Im.mass (x : Im) : Nat := (x.trait.size + 1) + (x.dat.size + 1) + ((x.funcs.map Fu.mass).sum + 1)
def Im.ok (x : Im) : Prop := (∀ a ∈ x.funcs, a.ok)
def Ac.mass (x : Ac) : Nat := (x.name.size + 1) + (strSize x.names + 1) + ((x.types.map Y.mass).sum + 1) + x.msg.mass + x.body.mass
def Ac.ok (x : Ac) : Prop := (∀ a ∈ x.types, a.ok) ∧ x.msg.ok ∧ x.body.ok
def Pr.mass (x : Pr) : Nat := (x.name.size + 1) + far x.version + ((x.uses.map Us.mass).sum + 1) + ((x.datas.map Da.mass).sum + 1) + ((x.traits.map Tr.mass).sum + 1) + ((x.impls.map Im.mass).sum + 1) + ((x.funcs.map Fu.mass).sum + 1) + ((x.actors.map Ac.mass).sum + 1)
def Pr.ok (x : Pr) : Prop := inI x.version ∧ (∀ a ∈ x.uses, a.ok) ∧ (∀ a ∈ x.datas, a.ok) ∧ (∀ a ∈ x.traits, a.ok) ∧ (∀ a ∈ x.impls, a.ok) ∧ (∀ a ∈ x.funcs, a.ok) ∧ (∀ a ∈ x.actors, a.ok)
end Go.Proofs.Ytldhlbjengpdbaa
namespace Go.Proofs.Ytldhlbjengpdbaa
open Go.RowKit
structure Code {α : Type} (enc : α → List UInt8) (eq : α → α → Bool) (a : α) : Prop where
  to : ∀ b, eq a b = true → enc a = enc b
  of : ∀ b r s, enc a ++ r = enc b ++ s → eq a b = true ∧ r = s
def eqStr (x y : ByteArray) : Bool := decide (x = y)
mutual
def Y.same : Y → Y → Bool
  | .mk k n l, .mk k' n' l' => decide (k = k') && (decide (n = n') && Y.sames l l')
def Y.sames : List Y → List Y → Bool
  | [], [] => true
  | a :: l, b :: r => a.same b && Y.sames l r
  | [], _ :: _ => false
  | _ :: _, [] => false
end
mutual
def V.alike : V → V → Bool
  | .mk k n t l, .mk k' n' t' l' => decide (k = k') && (decide (n = n') && (decide (t = t') && V.alikes l l'))
def V.alikes : List V → List V → Bool
  | [], [] => true
  | a :: l, b :: r => a.alike b && V.alikes l r
  | [], _ :: _ => false
  | _ :: _, [] => false
end
mutual
def Ex.same : Ex → Ex → Bool
  | .mk k n t ns ys l rs _, .mk k' n' t' ns' ys' l' rs' _ => decide (k = k') && (decide (n = n') && (decide (t = t') && (eqBy eqStr ns ns' && (eqBy Y.same ys ys' && (Ex.sames l l' && Ar.sames rs rs')))))
def Ex.sames : List Ex → List Ex → Bool
  | [], [] => true
  | a :: l, b :: r => a.same b && Ex.sames l r
  | [], _ :: _ => false
  | _ :: _, [] => false
def Ar.same : Ar → Ar → Bool
  | .mk p b, .mk p' b' => p.alike p' && b.same b'
def Ar.sames : List Ar → List Ar → Bool
  | [], [] => true
  | a :: l, b :: r => a.same b && Ar.sames l r
  | [], _ :: _ => false
  | _ :: _, [] => false
end
def Fu.same (f g : Fu) : Bool := decide (f.name = g.name) && (eqBy eqStr f.params g.params && (eqBy eqStr f.names g.names && (eqBy Y.same f.types g.types && (f.out.same g.out && f.body.same g.body))))
def Us.same (u v : Us) : Bool := decide (u.name = v.name) && (decide (u.low = v.low) && decide (u.high = v.high))
def Mk.same (m n : Mk) : Bool := decide (m.name = n.name) && eqBy Y.same m.args n.args
def Da.same (d e : Da) : Bool := decide (d.name = e.name) && (eqBy eqStr d.params e.params && eqBy Mk.same d.makes e.makes)
def Tr.same (t u : Tr) : Bool := decide (t.name = u.name) && eqBy Fu.same t.funcs u.funcs
def Im.same (t u : Im) : Bool := decide (t.trait = u.trait) && (decide (t.dat = u.dat) && eqBy Fu.same t.funcs u.funcs)
def Ac.same (x y : Ac) : Bool := decide (x.name = y.name) && (eqBy eqStr x.names y.names && (eqBy Y.same x.types y.types && (x.msg.same y.msg && x.body.same y.body)))
def Pr.same (p q : Pr) : Bool :=
  decide (p.name = q.name) && (decide (p.version = q.version) && (eqBy Us.same p.uses q.uses && (eqBy Da.same p.datas q.datas && (eqBy Tr.same p.traits q.traits && (eqBy Im.same p.impls q.impls && (eqBy Fu.same p.funcs q.funcs && eqBy Ac.same p.actors q.actors))))))
theorem Code.self {α : Type} {enc : α → List UInt8} {eq : α → α → Bool} {a : α} (h : Code enc eq a) : eq a a = true := (h.of a [] [] rfl).1
end Go.Proofs.Ytldhlbjengpdbaa
namespace Go.Proofs.Ytldhlbjengpdbaa
open Go.RowKit
set_option maxRecDepth 100000 in
set_option maxHeartbeats 1000000 in
theorem eqStrs_af (l r : List ByteArray) : AF Try.prog 8 [strRow l, strRow r] (· = .lit (.bool (eqBy eqStr l r))) := by
  refine af_enter tok Try.func8 Try.ntmps8 Try.results8 rfl (by kernel_rfl) rfl rfl fun F hX => ?_
  repeat (first | refine gG ?_ | refine zN1 (fun hlen => ?_) | refine zN2 (fun hlen => ?_))
  refine x_cond rfl (fun h => ?_) (fun h => ?_)
  · repeat (first | refine gG ?_ | refine zN1 (fun hlen => ?_) | refine zN2 (fun hlen => ?_))
    first | refine zR ?_ | refine zQ ?_
    have : l.length ≠ r.length := by have := h; simp at this; omega
    rw [eqBy_len this]
    rfl
  · have hlr : l.length = r.length := by have := h; simp at this; omega
    clear h
    repeat (first | refine gG ?_ | refine zN1 (fun hlen => ?_) | refine zN2 (fun hlen => ?_))
    refine x_loop [4, 5, 13, 14, 15, 16, 17, 18, 19, 20, 21, 22, 23, 24, 25] (fun k : Nat => [(13, .c (.lit (.int .i64 k)))]) (fun _ => []) (fun k => k ≤ l.length ∧ eqBy eqStr l r = eqBy eqStr (l.drop k) (r.drop k)) (fun k => l.length - k) 0 ⟨Nat.zero_le _, rfl⟩ ⟨rfl, trivial⟩ rfl fun k hk => ?_
    repeat (first | refine gG ?_ | refine zN1 (fun hlen => ?_) | refine zN2 (fun hlen => ?_))
    refine x_cond rfl (fun h => ?_) (fun h => ?_)
    · have hk' : k < l.length := by simpa using h
      have hk2 : k < r.length := hlr ▸ hk'
      obtain ⟨a, ha⟩ := nth hk'
      obtain ⟨b, hb⟩ := nth hk2
      have hstep : eqBy eqStr (l.drop k) (r.drop k) = (decide (a = b) && eqBy eqStr (l.drop (k + 1)) (r.drop (k + 1))) := eqBy_step ha hb
      have h1 : (l.flatMap strTs)[k * 1]? = some (.lit (.string a)) := by rw [Nat.mul_one]; exact str_at ha
      have h2 : (r.flatMap strTs)[k * 1]? = some (.lit (.string b)) := by rw [Nat.mul_one]; exact str_at hb
      clear h
      repeat (first | refine gG ?_ | refine zN1 (fun hlen => ?_) | refine zN2 (fun hlen => ?_))
      refine ac_draw [1, 1, 1, 1, 1, 1, 1, 1, 1] [0, 1, 2, 3, 4, 5, 6, 7, 8] (by kernel_rfl) (by kernel_rfl) ?_
      refine gW ?_
      apply w_q; (focus exact rfl); (focus exact rfl); focus (intro _; (refine zIx k hk' ?_); exact det_refl)
      apply w_q; (focus exact rfl); (focus exact rfl); focus (intro _; (refine zEl1 h1 ?_); exact det_refl)
      refine gW ?_
      apply w_q; (focus exact rfl); (focus exact rfl); focus (intro _; (refine zIx k hk2 ?_); exact det_refl)
      apply w_q; (focus exact rfl); (focus exact rfl); focus (intro _; (refine zEl1 h2 ?_); exact det_refl)
      refine gW ?_
      refine w_nil ?_
      cases d1 : decide (a = b)
      · repeat (first | refine gG ?_ | refine zN1 (fun hlen => ?_) | refine zN2 (fun hlen => ?_))
        first | refine zR ?_ | refine zQ ?_
        rw [hk.2, hstep, d1]
        rfl
      · repeat (first | refine gG ?_ | refine zN1 (fun hlen => ?_) | refine zN2 (fun hlen => ?_))
        exact ⟨k + 1, ⟨hk', by rw [hk.2, hstep, d1, Bool.true_and]⟩, by omega, x_wkd 0 ⟨rfl, trivial⟩ rfl (by repeat (first | exact ag_refl | refine ag_upd rfl ?_ | refine ag_at rfl rfl ?_))⟩
    · have hk' : k = l.length := by
        have : ¬ k < l.length := by simpa using h
        omega
      repeat (first | refine gG ?_ | refine zN1 (fun hlen => ?_) | refine zN2 (fun hlen => ?_))
      first | refine zR ?_ | refine zQ ?_
      rw [hk.2, hk', List.drop_length, hlr, List.drop_length]
      rfl
end Go.Proofs.Ytldhlbjengpdbaa
namespace Go.Proofs.Ytldhlbjengpdbaa
open Go.RowKit
def Ar.pat : Ar → V
  | .mk p _ => p
def Ar.body : Ar → Ex
  | .mk _ b => b
def Ex.arms : Ex → List Ar
  | .mk _ _ _ _ _ _ rs _ => rs
def Ex.args : Ex → List Ex
  | .mk _ _ _ _ _ l _ _ => l
def Ex.nexts (e : Ex) : List Ex := e.args ++ e.arms.map Ar.body
def Im.bodies (i : Im) : List Ex := i.funcs.map Fu.body
def Pr.funs (p : Pr) : List Fu := p.impls.flatMap Im.funcs ++ p.funcs
def Pr.bodies (p : Pr) : List Ex := p.funs.map Fu.body ++ p.actors.map Ac.body
theorem grown0 {α : Type} (acc : List Ex) (f : α → Ex) (l : List α) : acc ++ (l.take 0).map f = acc := by simp
theorem grown_le {α : Type} (acc : List Ex) (f : α → Ex) (l : List α) (k : Nat) : (acc ++ (l.take k).map f).length ≤ acc.length + l.length := by simp only [List.length_append, List.length_map, List.length_take]; omega
theorem grown_len {α : Type} (acc : List Ex) (f : α → Ex) {l : List α} {k : Nat} {a : α} (h : l[k]? = some a) : (acc ++ (l.take (k + 1)).map f).length = (acc ++ (l.take k).map f).length + 1 := by
  obtain ⟨h1, rfl⟩ := List.getElem?_eq_some_iff.1 h
  simp only [List.length_append, List.length_map, List.length_take]; omega
theorem grown_all {α : Type} (acc : List Ex) (f : α → Ex) {l : List α} {k : Nat} {a : α} (h : l[k]? = some a) : Ex.all (acc ++ (l.take (k + 1)).map f) = Ex.all (acc ++ (l.take k).map f) ++ (f a).ts := by
  obtain ⟨h1, rfl⟩ := List.getElem?_eq_some_iff.1 h
  rw [List.take_succ_eq_append_getElem h1, List.map_append, ← List.append_assoc, Ex.all_app]
  simp [Ex.all]
theorem flatl_le {α β : Type} (f : α → List β) (l : List α) (k : Nat) : ((l.take k).flatMap f).length ≤ (l.flatMap f).length := by
  have := congrArg (fun r => (List.flatMap f r).length) (List.take_append_drop k l)
  simp only [List.flatMap_append, List.length_append] at this
  omega
set_option maxRecDepth 100000 in
set_option maxHeartbeats 4000000 in
theorem funsOf_af (p : Pr) (hp : p.funs.length ≤ 1048576) : AF Try.prog 26 [p.t] (· = Fu.row p.funs) := by
  obtain ⟨nm, vr, us, ds, trs, ims, fus, acs⟩ := p
  simp only [Pr.funs, List.length_append] at hp
  refine af_enter tok Try.func26 Try.ntmps26 Try.results26 rfl (by kernel_rfl) rfl rfl fun F hX => ?_
  repeat (first | refine gG ?_ | refine zN1 (fun hlen => ?_) | refine zN2 (fun hlen => ?_) | refine zAl (fun _ => ?_) | refine zBf ?_ | refine zAp (fun _ => ?_))
  refine x_own 3 59 15 rfl rfl rfl rfl rfl ?_
  refine x_loop [3, 5, 9, 10, 11, 12, 13, 14, 15, 16, 17] (fun y : Nat × Value => [(9, .c (.lit (.int .i64 (y.1 : Nat)))), (3, .own 0 y.2)]) (fun y => [.row y.2 59 15 ((ims.take y.1).flatMap Im.funcs).length (((ims.take y.1).flatMap Im.funcs).flatMap Fu.ts)])
    (fun y => y.1 ≤ ims.length) (fun y => ims.length - y.1) (0, .slice none 0 0) (Nat.zero_le _) ⟨rfl, rfl, trivial⟩ rfl ?_
  rintro ⟨k, v⟩ hk
  dsimp only at hk ⊢
  repeat (first | refine gG ?_ | refine zN1 (fun hlen => ?_) | refine zN2 (fun hlen => ?_) | refine zAl (fun _ => ?_) | refine zBx (fun _ => ?_) | refine zAp (fun _ => ?_))
  refine x_cond rfl (fun h => ?_) (fun h => ?_)
  · have hk' : k < ims.length := by simpa using h
    obtain ⟨a, ha⟩ := nth hk'
    have hle := flatl_le Im.funcs ims (k + 1)
    have hsn := flat_snoc' Im.funcs ha
    have hl1 : ((ims.take (k + 1)).flatMap Im.funcs).length = ((ims.take k).flatMap Im.funcs).length + a.funcs.length := by rw [hsn, List.length_append]
    have hc1 : ((ims.take (k + 1)).flatMap Im.funcs).flatMap Fu.ts = ((ims.take k).flatMap Im.funcs).flatMap Fu.ts ++ a.funcs.flatMap Fu.ts := by rw [hsn, List.flatMap_append]
    clear h hsn
    repeat (first | refine gG ?_ | refine zN1 (fun hlen => ?_) | refine zN2 (fun hlen => ?_) | refine zAl (fun _ => ?_) | refine zBx (fun _ => ?_) | refine zAp (fun _ => ?_))
    refine zIx (k) (hk') ?_
    repeat (first | refine gG ?_ | refine zN1 (fun hlen => ?_) | refine zN2 (fun hlen => ?_) | refine zAl (fun _ => ?_) | refine zBx (fun _ => ?_) | refine zAp (fun _ => ?_))
    refine zEl (Im.at ha) (Im.ts_len a) ?_
    obtain ⟨tn, dn, fs⟩ := a
    dsimp only at hl1 hc1
    repeat (first | refine gG ?_ | refine zN1 (fun hlen => ?_) | refine zN2 (fun hlen => ?_) | refine zAl (fun _ => ?_) | refine zBx (fun _ => ?_) | refine zAp (fun _ => ?_))
    exact ⟨(k + 1, _), hk', by simp only; omega, x_wkd 1 ⟨rfl, rfl, trivial⟩ (by simp only [hl1, hc1]; rfl) (by repeat (first | exact ag_refl | refine ag_upd rfl ?_ | refine ag_at rfl rfl ?_))⟩
  · have hk' : k = ims.length := by
      have : ¬ k < ims.length := by simpa using h
      omega
    subst hk'
    clear h
    rw [List.take_length]
    repeat (first | refine gG ?_ | refine zN1 (fun hlen => ?_) | refine zN2 (fun hlen => ?_) | refine zAl (fun _ => ?_) | refine zBx (fun _ => ?_) | refine zAp (fun _ => ?_))
    first | refine zR ?_ | refine zQ ?_
    simp only [outT, Fu.row, Pr.funs, List.length_append, List.flatMap_append]
set_option maxRecDepth 100000 in
set_option maxHeartbeats 4000000 in
theorem bodiesOf_af (p : Pr) (hp : p.bodies.length ≤ 1048576) : AF Try.prog 12 [p.t] (· = Ex.row p.bodies) := by
  have hc := funsOf_af p (by simp only [Pr.bodies, List.length_append, List.length_map] at hp; omega)
  have e0 : p.bodies = ([] ++ p.funs.map Fu.body) ++ p.actors.map Ac.body := rfl
  have htl : p.funs.length + p.actors.length ≤ 1048576 := by simp only [Pr.bodies, List.length_append, List.length_map] at hp; omega
  generalize p.bodies = bl at *
  generalize p.funs = fl at *
  obtain ⟨nm, vr, us, ds, trs, ims, fus, acs⟩ := p
  dsimp only at e0 htl
  refine af_enter tok Try.func12 Try.ntmps12 Try.results12 rfl (by kernel_rfl) rfl rfl fun F hX => ?_
  repeat (first | refine gG ?_ | refine zN1 (fun hlen => ?_) | refine zN2 (fun hlen => ?_) | refine zAl (fun _ => ?_) | refine zBf ?_ | refine zAp (fun _ => ?_))
  refine zCall (hc) ?_
  rintro _ rfl
  repeat (first | refine gG ?_ | refine zN1 (fun hlen => ?_) | refine zN2 (fun hlen => ?_) | refine zAl (fun _ => ?_) | refine zBx (fun _ => ?_) | refine zAp (fun _ => ?_))
  refine x_own 3 47 8 rfl rfl rfl rfl rfl ?_
  refine x_loop [3, 5, 11, 12, 13, 14, 15, 16, 17, 18, 19, 20] (fun y : Nat × Value => [(11, .c (.lit (.int .i64 (y.1 : Nat)))), (3, .own 0 y.2)]) (fun y => [.row y.2 47 8 (([] : List Ex) ++ (fl.take y.1).map Fu.body).length (Ex.all (([] : List Ex) ++ (fl.take y.1).map Fu.body))])
    (fun y => y.1 ≤ fl.length) (fun y => fl.length - y.1) (0, .slice none 0 0) (Nat.zero_le _) ⟨rfl, rfl, trivial⟩ (by first | (rw [grown0]; done) | (rw [grown0]; rfl)) ?_
  rintro ⟨j, u⟩ hj
  dsimp only at hj ⊢
  repeat (first | refine gG ?_ | refine zN1 (fun hlen => ?_) | refine zN2 (fun hlen => ?_) | refine zAl (fun _ => ?_) | refine zBx (fun _ => ?_) | refine zAp (fun _ => ?_))
  refine x_cond rfl (fun h => ?_) (fun h => ?_)
  · have hj' : j < fl.length := by simpa using h
    obtain ⟨b, hb⟩ := nth hj'
    have hle := grown_le ([] : List Ex) Fu.body fl (j + 1)
    have hl1 := grown_len ([] : List Ex) Fu.body hb
    have hc1 := grown_all ([] : List Ex) Fu.body hb
    have htot := (by simp; omega : ([] : List Ex).length + fl.length ≤ 1048576)
    clear h
    repeat (first | refine gG ?_ | refine zN1 (fun hlen => ?_) | refine zN2 (fun hlen => ?_) | refine zAl (fun _ => ?_) | refine zBx (fun _ => ?_) | refine zAp (fun _ => ?_))
    refine zIx (j) (hj') ?_
    repeat (first | refine gG ?_ | refine zN1 (fun hlen => ?_) | refine zN2 (fun hlen => ?_) | refine zAl (fun _ => ?_) | refine zBx (fun _ => ?_) | refine zAp (fun _ => ?_))
    refine zEl (Fu.at hb) (Fu.ts_len b) ?_
    obtain ⟨fn, fpa, fna, fty, ⟨ko, no, lo⟩, ⟨kb, nb, tb, nsb, ysb, lb, rsb, pb⟩⟩ := b
    repeat (first | refine gG ?_ | refine zN1 (fun hlen => ?_) | refine zN2 (fun hlen => ?_) | refine zAl (fun _ => ?_) | refine zBx (fun _ => ?_) | refine zAp (fun _ => ?_))
    exact ⟨(j + 1, _), hj', by simp only; omega, x_wkd 1 ⟨rfl, rfl, trivial⟩ (by simp only [hl1, hc1]; rfl) (by repeat (first | exact ag_refl | refine ag_upd rfl ?_ | refine ag_at rfl rfl ?_))⟩
  · have hj' : j = fl.length := by
      have : ¬ j < fl.length := by simpa using h
      omega
    subst hj'
    clear h
    rw [List.take_length]
    repeat (first | refine gG ?_ | refine zN1 (fun hlen => ?_) | refine zN2 (fun hlen => ?_) | refine zAl (fun _ => ?_) | refine zBx (fun _ => ?_) | refine zAp (fun _ => ?_))
    refine x_loop [3, 7, 24, 25, 26, 27, 28, 29, 30, 31, 32, 33] (fun y : Nat × Value => [(24, .c (.lit (.int .i64 (y.1 : Nat)))), (3, .own 0 y.2)]) (fun y => [.row y.2 47 8 ((([] : List Ex) ++ fl.map Fu.body) ++ (acs.take y.1).map Ac.body).length (Ex.all ((([] : List Ex) ++ fl.map Fu.body) ++ (acs.take y.1).map Ac.body))])
      (fun y => y.1 ≤ acs.length) (fun y => acs.length - y.1) (0, _) (Nat.zero_le _) ⟨rfl, rfl, trivial⟩ (by first | (rw [grown0]; done) | (rw [grown0]; rfl)) ?_
    rintro ⟨j, u⟩ hj
    dsimp only at hj ⊢
    repeat (first | refine gG ?_ | refine zN1 (fun hlen => ?_) | refine zN2 (fun hlen => ?_) | refine zAl (fun _ => ?_) | refine zBx (fun _ => ?_) | refine zAp (fun _ => ?_))
    refine x_cond rfl (fun h => ?_) (fun h => ?_)
    · have hj' : j < acs.length := by simpa using h
      obtain ⟨b, hb⟩ := nth hj'
      have hle := grown_le (([] : List Ex) ++ fl.map Fu.body) Ac.body acs (j + 1)
      have hl1 := grown_len (([] : List Ex) ++ fl.map Fu.body) Ac.body hb
      have hc1 := grown_all (([] : List Ex) ++ fl.map Fu.body) Ac.body hb
      have htot := (by simpa using htl : (([] : List Ex) ++ fl.map Fu.body).length + acs.length ≤ 1048576)
      clear h
      repeat (first | refine gG ?_ | refine zN1 (fun hlen => ?_) | refine zN2 (fun hlen => ?_) | refine zAl (fun _ => ?_) | refine zBx (fun _ => ?_) | refine zAp (fun _ => ?_))
      refine zIx (j) (hj') ?_
      repeat (first | refine gG ?_ | refine zN1 (fun hlen => ?_) | refine zN2 (fun hlen => ?_) | refine zAl (fun _ => ?_) | refine zBx (fun _ => ?_) | refine zAp (fun _ => ?_))
      refine zEl (Ac.at hb) (Ac.ts_len b) ?_
      obtain ⟨fn, fna, fty, ⟨ko, no, lo⟩, ⟨kb, nb, tb, nsb, ysb, lb, rsb, pb⟩⟩ := b
      repeat (first | refine gG ?_ | refine zN1 (fun hlen => ?_) | refine zN2 (fun hlen => ?_) | refine zAl (fun _ => ?_) | refine zBx (fun _ => ?_) | refine zAp (fun _ => ?_))
      exact ⟨(j + 1, _), hj', by simp only; omega, x_wkd 1 ⟨rfl, rfl, trivial⟩ (by simp only [hl1, hc1]; rfl) (by repeat (first | exact ag_refl | refine ag_upd rfl ?_ | refine ag_at rfl rfl ?_))⟩
    · have hj' : j = acs.length := by
        have : ¬ j < acs.length := by simpa using h
        omega
      subst hj'
      clear h
      rw [List.take_length]
      repeat (first | refine gG ?_ | refine zN1 (fun hlen => ?_) | refine zN2 (fun hlen => ?_) | refine zAl (fun _ => ?_) | refine zBx (fun _ => ?_) | refine zAp (fun _ => ?_))
      first | refine zR ?_ | refine zQ ?_
      simp only [outT, Ex.row, e0]
end Go.Proofs.Ytldhlbjengpdbaa
namespace Go.Proofs.Ytldhlbjengpdbaa
open Go.RowKit
mutual
def Ex.walk : Ex → List Ex
  | .mk k n t ns ys l rs a => .mk k n t ns ys l rs a :: (Ex.walks l ++ Ar.walks rs)
def Ex.walks : List Ex → List Ex
  | [] => []
  | v :: r => v.walk ++ Ex.walks r
def Ar.walks : List Ar → List Ex
  | [] => []
  | .mk _ b :: r => b.walk ++ Ar.walks r
end
theorem Ex.walks_eq : ∀ l : List Ex, Ex.walks l = l.flatMap Ex.walk
  | [] => rfl
  | v :: l => by rw [Ex.walks, Ex.walks_eq l]; rfl
theorem Ar.walks_eq : ∀ l : List Ar, Ar.walks l = (l.map Ar.body).flatMap Ex.walk
  | [] => rfl
  | .mk p b :: l => by rw [Ar.walks, Ar.walks_eq l]; rfl
theorem Ex.walk_eq (e : Ex) : e.walk = e :: e.nexts.flatMap Ex.walk := by
  obtain ⟨k, n, t, ns, ys, l, rs, a⟩ := e
  rw [Ex.walk, Ex.walks_eq, Ar.walks_eq, Ex.nexts, List.flatMap_append]
  rfl
theorem Ex.len_walk : ∀ l : List Ex, l.length ≤ (l.flatMap Ex.walk).length
  | [] => Nat.le_refl _
  | v :: l => by
    have := Ex.len_walk l
    rw [List.flatMap_cons, List.length_append, Ex.walk_eq, List.length_cons, List.length_cons]
    omega
theorem dropr_len {α : Type} (acc : List Ex) (f : α → Ex) (l : List α) : acc ++ ((l.drop l.length).map f).reverse = acc := by simp
theorem downr_le {α : Type} (acc : List Ex) (f : α → Ex) (l : List α) (k : Nat) : (acc ++ ((l.drop k).map f).reverse).length ≤ acc.length + l.length := by simp
theorem downr {α : Type} (acc : List Ex) (f : α → Ex) {l : List α} {k : Nat} {a : α} (h : l[k]? = some a) : acc ++ ((l.drop k).map f).reverse = (acc ++ ((l.drop (k + 1)).map f).reverse) ++ [f a] := by
  obtain ⟨h1, rfl⟩ := List.getElem?_eq_some_iff.1 h
  rw [List.drop_eq_getElem_cons h1, List.map_cons, List.reverse_cons, List.append_assoc]
theorem downr_len {α : Type} (acc : List Ex) (f : α → Ex) {l : List α} {k : Nat} {a : α} (h : l[k]? = some a) : (acc ++ ((l.drop k).map f).reverse).length = (acc ++ ((l.drop (k + 1)).map f).reverse).length + 1 := by rw [downr acc f h, List.length_append]; rfl
theorem downr_all {α : Type} (acc : List Ex) (f : α → Ex) {l : List α} {k : Nat} {a : α} (h : l[k]? = some a) : Ex.all (acc ++ ((l.drop k).map f).reverse) = Ex.all (acc ++ ((l.drop (k + 1)).map f).reverse) ++ (f a).ts := by
  rw [downr acc f h, Ex.all_app, Ex.all_one]
theorem Ar.at_body {l : List Ar} {k : Nat} {v : Ar} (h : l[k]? = some v) : ((Ar.all l).drop (k * 12 + 4)).take 8 = v.body.ts := by
  have h1 := Ar.at h
  obtain ⟨p, e⟩ := v
  have h2 := congrArg (List.drop 4) h1
  rw [List.drop_take, List.drop_drop] at h2
  rw [h2, Ar.ts]
  simp [V.ts_len, Ar.body]
theorem all_take (S : List Ex) (x : Ex) : (Ex.all (S ++ [x])).take (S.length * 8) = Ex.all S := by
  have h : ∀ l : List Ex, (Ex.all l).length = l.length * 8 := by
    intro l
    induction l with
    | nil => rfl
    | cons a l ih => rw [Ex.all, List.length_append, ih, Ex.ts_len, List.length_cons]; omega
  rw [Ex.all_app, List.take_append_of_le_length (by rw [h]; exact Nat.le_refl _), List.take_of_length_le (by rw [h]; exact Nat.le_refl _)]
theorem all_next {O S W : List Ex} {x : Ex} (h : O ++ (S ++ [x]).reverse.flatMap Ex.walk = W) : (O ++ [x]) ++ ((S ++ (x.arms.map Ar.body).reverse) ++ x.args.reverse).reverse.flatMap Ex.walk = W := by
  rw [← h]
  simp only [List.reverse_append, List.reverse_reverse, List.flatMap_append, List.append_assoc, List.reverse_cons, List.reverse_nil, List.nil_append, List.singleton_append, List.flatMap_cons]
  rw [Ex.walk_eq x, Ex.nexts, List.flatMap_append]
  simp only [List.cons_append, List.append_assoc]
theorem all_fit {O S W : List Ex} (h : O ++ S.reverse.flatMap Ex.walk = W) : O.length + S.length ≤ W.length := by
  have := Ex.len_walk S.reverse
  rw [← h, List.length_append]
  rw [List.length_reverse] at this
  omega
set_option maxRecDepth 100000 in
set_option maxHeartbeats 8000000 in
theorem all_af (e : Ex) (hw : e.walk.length ≤ 1048576) : AF Try.prog 29 [e.t] (· = Ex.row e.walk) := by
  obtain ⟨W, hW⟩ : ∃ W, W = e.walk := ⟨_, rfl⟩
  rw [← hW] at hw ⊢
  obtain ⟨k0, n0, t0, ns0, ys0, l0, rs0, p0⟩ := e
  refine af_enter tok Try.func29 Try.ntmps29 Try.results29 rfl (by kernel_rfl) rfl rfl fun F hX => ?_
  repeat (first | refine gX ?_ | refine zN1 (fun hlen => ?_) | refine zN2 (fun hlen => ?_) | refine zAl (fun _ => ?_) | refine zBf ?_ | refine zAp (fun _ => ?_))
  refine zBo (fun v0 => ?_)
  repeat (first | refine gG ?_ | refine zN1 (fun hlen => ?_) | refine zN2 (fun hlen => ?_) | refine zAl (fun _ => ?_) | refine zBx (fun _ => ?_) | refine zAp (fun _ => ?_))
  refine x_own 4 47 8 rfl rfl rfl rfl rfl ?_
  refine x_loop [3, 4, 5, 6, 7, 10, 11, 12, 13, 14, 15, 16, 17, 18, 19, 20, 21, 22, 23, 24, 25, 26, 27, 28, 29, 30, 31, 32, 33, 34, 35, 36, 37, 38, 39, 40, 41, 42, 43, 44, 45, 46, 47, 48, 49, 50, 51, 52, 53, 54, 55, 56, 57, 58, 59, 60] (fun y : List Ex × List Ex × Value × Value => [(3, .own 0 y.2.2.1), (4, .own 1 y.2.2.2)]) (fun y => [.row y.2.2.1 47 8 y.1.length (Ex.all y.1), .row y.2.2.2 47 8 y.2.1.length (Ex.all y.2.1)])
    (fun y => y.2.1 ++ y.1.reverse.flatMap Ex.walk = W) (fun y => W.length - y.2.1.length) ([.mk k0 n0 t0 ns0 ys0 l0 rs0 p0], [], v0, .slice none 0 0) (by simp [hW]) ⟨rfl, rfl, trivial⟩ rfl ?_
  rintro ⟨S0, O, v, u⟩ hI
  dsimp only at hI ⊢
  repeat (first | refine gG ?_ | refine zN1 (fun hlen => ?_) | refine zN2 (fun hlen => ?_) | refine zAl (fun _ => ?_) | refine zBx (fun _ => ?_) | refine zAp (fun _ => ?_))
  refine x_cond rfl (fun h => ?_) (fun h => ?_)
  · obtain ⟨S, x, rfl⟩ : ∃ S x, S0 = S ++ [x] := by
      rcases List.eq_nil_or_concat S0 with rfl | ⟨S, x, rfl⟩
      · simp at h
      · exact ⟨S, x, by simp⟩
    have hx : (S ++ [x])[S.length]? = some x := by simp
    have e1 : (S ++ [x]).length = S.length + 1 := by simp
    have hnew := all_next hI
    have hfit := all_fit hnew
    have htk := all_take S x
    have htl1 : S.length + x.arms.length ≤ 1048576 := by simp only [List.length_append, List.length_reverse, List.length_map] at hfit; omega
    have htl2 : (S ++ (x.arms.map Ar.body).reverse).length + x.args.length ≤ 1048576 := by simp only [List.length_append, List.length_reverse, List.length_map] at hfit ⊢; omega
    have htl3 : O.length + 1 ≤ W.length := by simp only [List.length_append, List.length_cons, List.length_nil] at hfit; omega
    clear h hfit hI
    rw [e1]
    repeat (first | refine gG ?_ | refine zN1 (fun hlen => ?_) | refine zN2 (fun hlen => ?_) | refine zAl (fun _ => ?_) | refine zBx (fun _ => ?_) | refine zAp (fun _ => ?_))
    refine lo_sub rfl rfl (r := ((S.length : Nat) : Int)) (by rw [IntWalk.i64_in _ (by omega)]; omega) ?_
    repeat (first | refine gG ?_ | refine zN1 (fun hlen => ?_) | refine zN2 (fun hlen => ?_) | refine zAl (fun _ => ?_) | refine zBx (fun _ => ?_) | refine zAp (fun _ => ?_))
    refine zIxo S.length (show S.length < S.length + 1 by omega) ?_
    repeat (first | refine gG ?_ | refine zN1 (fun hlen => ?_) | refine zN2 (fun hlen => ?_) | refine zAl (fun _ => ?_) | refine zBx (fun _ => ?_) | refine zAp (fun _ => ?_))
    refine zElo (Ex.at hx) (Ex.ts_len x) ?_
    obtain ⟨kx, nx, tx, nsx, ysx, lx, rsx, px⟩ := x
    dsimp only [Ex.arms, Ex.args] at htl1 htl2 hnew
    repeat (first | refine gG ?_ | refine zN1 (fun hlen => ?_) | refine zN2 (fun hlen => ?_) | refine zAl (fun _ => ?_) | refine zBx (fun _ => ?_) | refine zAp (fun _ => ?_))
    rename_i b
    refine lo_sub rfl rfl (r := ((S.length : Nat) : Int)) (by rw [IntWalk.i64_in _ (by omega)]; omega) ?_
    repeat (first | refine gG ?_ | refine zN1 (fun hlen => ?_) | refine zN2 (fun hlen => ?_) | refine zAl (fun _ => ?_) | refine zBx (fun _ => ?_) | refine zAp (fun _ => ?_))
    refine zQh S.length (show S.length ≤ S.length + 1 by omega) (fun v1 => ?_)
    repeat (first | refine gG ?_ | refine zN1 (fun hlen => ?_) | refine zN2 (fun hlen => ?_) | refine zAl (fun _ => ?_) | refine zBx (fun _ => ?_) | refine zAp (fun _ => ?_))
    rename_i u1
    refine lo_sub rfl rfl (r := ((rsx.length : Nat) : Int) - 1) (by rw [IntWalk.i64_in _ (by omega)]) ?_
    repeat (first | refine gG ?_ | refine zN1 (fun hlen => ?_) | refine zN2 (fun hlen => ?_) | refine zAl (fun _ => ?_) | refine zBx (fun _ => ?_) | refine zAp (fun _ => ?_))
    refine x_loop [3, 6, 32, 33, 34, 35, 36, 37, 38, 39, 40, 41, 42, 43, 44] (fun y : Nat × Value => [(6, .c (.lit (.int .i64 (((y.1 : Nat) : Int) - 1)))), (3, .own 0 y.2)]) (fun y => [.row y.2 47 8 (S ++ ((rsx.drop y.1).map Ar.body).reverse).length (Ex.all (S ++ ((rsx.drop y.1).map Ar.body).reverse)), .row u1 47 8 (O.length + 1) (Ex.all O ++ Ex.ts (.mk kx nx tx nsx ysx lx rsx px)), .box b 47 [.c (.lit (.int .i64 kx)), .c (.lit (.int .i64 nx)), .c (.lit (.string tx)), .c (strRow nsx), .c (Y.row ysx), .c (Ex.row lx), .c (Ar.row rsx), .c (.lit (.int .i64 px))]])
      (fun y => y.1 ≤ rsx.length) (fun y => y.1) (rsx.length, v1) (Nat.le_refl _) ⟨rfl, rfl, trivial⟩ (by first | (simp only [dropr_len, htk]; done) | (simp only [dropr_len, htk]; rfl)) ?_
    rintro ⟨m, v2⟩ hm
    dsimp only at hm ⊢
    repeat (first | refine gG ?_ | refine zN1 (fun hlen => ?_) | refine zN2 (fun hlen => ?_) | refine zAl (fun _ => ?_) | refine zBx (fun _ => ?_) | refine zAp (fun _ => ?_))
    refine x_cond rfl (fun h => ?_) (fun h => ?_)
    · obtain ⟨m, rfl⟩ : ∃ m', m = m' + 1 := by
        have : (0 : Int) ≤ (m : Int) - 1 := of_decide_eq_true h
        exact ⟨m - 1, by omega⟩
      obtain ⟨r, hr⟩ := nth (show m < rsx.length by omega)
      have hle := downr_le (S) Ar.body rsx m
      have hl1 := downr_len (S) Ar.body hr
      have hc1 := downr_all (S) Ar.body hr
      have htot := htl1
      clear h
      repeat (first | refine gG ?_ | refine zN1 (fun hlen => ?_) | refine zN2 (fun hlen => ?_) | refine zAl (fun _ => ?_) | refine zBx (fun _ => ?_) | refine zAp (fun _ => ?_))
      refine zIx m (show m < rsx.length by omega) ?_ (hz := by omega)
      repeat (first | refine gG ?_ | refine zN1 (fun hlen => ?_) | refine zN2 (fun hlen => ?_) | refine zAl (fun _ => ?_) | refine zBx (fun _ => ?_) | refine zAp (fun _ => ?_))
      refine zEl (Ar.at_body hr) (Ex.ts_len _) ?_
      obtain ⟨⟨kp, np, tp, lp⟩, ⟨kb, nb, tb, nsb, ysb, lb, rsb, pb⟩⟩ := r
      repeat (first | refine gG ?_ | refine zN1 (fun hlen => ?_) | refine zN2 (fun hlen => ?_) | refine zAl (fun _ => ?_) | refine zBx (fun _ => ?_) | refine zAp (fun _ => ?_))
      refine lo_sub rfl rfl (r := ((m : Nat) : Int) - 1) (by rw [IntWalk.i64_in _ (by omega)]; omega) ?_
      repeat (first | refine gG ?_ | refine zN1 (fun hlen => ?_) | refine zN2 (fun hlen => ?_) | refine zAl (fun _ => ?_) | refine zBx (fun _ => ?_) | refine zAp (fun _ => ?_))
      exact ⟨(m, _), by simp only; omega, by simp only; omega, x_wkd 3 ⟨rfl, rfl, trivial⟩ (by simp only [hl1, hc1]; rfl) (by repeat (first | exact ag_refl | refine ag_upd rfl ?_ | refine ag_at rfl rfl ?_))⟩
    · have h0 : m = 0 := by
        have : ¬ (0 : Int) ≤ (m : Int) - 1 := of_decide_eq_false h
        omega
      subst h0
      clear h
      rw [List.drop_zero]
      repeat (first | refine gG ?_ | refine zN1 (fun hlen => ?_) | refine zN2 (fun hlen => ?_) | refine zAl (fun _ => ?_) | refine zBx (fun _ => ?_) | refine zAp (fun _ => ?_))
      refine lo_sub rfl rfl (r := ((lx.length : Nat) : Int) - 1) (by rw [IntWalk.i64_in _ (by omega)]) ?_
      repeat (first | refine gG ?_ | refine zN1 (fun hlen => ?_) | refine zN2 (fun hlen => ?_) | refine zAl (fun _ => ?_) | refine zBx (fun _ => ?_) | refine zAp (fun _ => ?_))
      refine x_loop [3, 7, 49, 50, 51, 52, 53, 54, 55, 56, 57, 58, 59, 60] (fun y : Nat × Value => [(7, .c (.lit (.int .i64 (((y.1 : Nat) : Int) - 1)))), (3, .own 0 y.2)]) (fun y => [.row y.2 47 8 ((S ++ (rsx.map Ar.body).reverse) ++ ((lx.drop y.1).map id).reverse).length (Ex.all ((S ++ (rsx.map Ar.body).reverse) ++ ((lx.drop y.1).map id).reverse)), .row u1 47 8 (O.length + 1) (Ex.all O ++ Ex.ts (.mk kx nx tx nsx ysx lx rsx px)), .box b 47 [.c (.lit (.int .i64 kx)), .c (.lit (.int .i64 nx)), .c (.lit (.string tx)), .c (strRow nsx), .c (Y.row ysx), .c (Ex.row lx), .c (Ar.row rsx), .c (.lit (.int .i64 px))]])
        (fun y => y.1 ≤ lx.length) (fun y => y.1) (lx.length, _) (Nat.le_refl _) ⟨rfl, rfl, trivial⟩ (by first | (simp only [dropr_len]; done) | (simp only [dropr_len]; rfl)) ?_
      rintro ⟨m, v2⟩ hm
      dsimp only at hm ⊢
      repeat (first | refine gG ?_ | refine zN1 (fun hlen => ?_) | refine zN2 (fun hlen => ?_) | refine zAl (fun _ => ?_) | refine zBx (fun _ => ?_) | refine zAp (fun _ => ?_))
      refine x_cond rfl (fun h => ?_) (fun h => ?_)
      · obtain ⟨m, rfl⟩ : ∃ m', m = m' + 1 := by
          have : (0 : Int) ≤ (m : Int) - 1 := of_decide_eq_true h
          exact ⟨m - 1, by omega⟩
        obtain ⟨r, hr⟩ := nth (show m < lx.length by omega)
        have hle := downr_le ((S ++ (rsx.map Ar.body).reverse)) id lx m
        have hl1 := downr_len ((S ++ (rsx.map Ar.body).reverse)) id hr
        have hc1 := downr_all ((S ++ (rsx.map Ar.body).reverse)) id hr
        have htot := htl2
        clear h
        repeat (first | refine gG ?_ | refine zN1 (fun hlen => ?_) | refine zN2 (fun hlen => ?_) | refine zAl (fun _ => ?_) | refine zBx (fun _ => ?_) | refine zAp (fun _ => ?_))
        refine zIx m (show m < lx.length by omega) ?_ (hz := by omega)
        repeat (first | refine gG ?_ | refine zN1 (fun hlen => ?_) | refine zN2 (fun hlen => ?_) | refine zAl (fun _ => ?_) | refine zBx (fun _ => ?_) | refine zAp (fun _ => ?_))
        refine zEl (Ex.at hr) (Ex.ts_len _) ?_
        obtain ⟨kb, nb, tb, nsb, ysb, lb, rsb, pb⟩ := r
        repeat (first | refine gG ?_ | refine zN1 (fun hlen => ?_) | refine zN2 (fun hlen => ?_) | refine zAl (fun _ => ?_) | refine zBx (fun _ => ?_) | refine zAp (fun _ => ?_))
        refine lo_sub rfl rfl (r := ((m : Nat) : Int) - 1) (by rw [IntWalk.i64_in _ (by omega)]; omega) ?_
        repeat (first | refine gG ?_ | refine zN1 (fun hlen => ?_) | refine zN2 (fun hlen => ?_) | refine zAl (fun _ => ?_) | refine zBx (fun _ => ?_) | refine zAp (fun _ => ?_))
        exact ⟨(m, _), by simp only; omega, by simp only; omega, x_wkd 3 ⟨rfl, rfl, trivial⟩ (by simp only [hl1, hc1]; rfl) (by repeat (first | exact ag_refl | refine ag_upd rfl ?_ | refine ag_at rfl rfl ?_))⟩
      · have h0 : m = 0 := by
          have : ¬ (0 : Int) ≤ (m : Int) - 1 := of_decide_eq_false h
          omega
        subst h0
        clear h
        rw [List.drop_zero]
        repeat (first | refine gG ?_ | refine zN1 (fun hlen => ?_) | refine zN2 (fun hlen => ?_) | refine zAl (fun _ => ?_) | refine zBx (fun _ => ?_) | refine zAp (fun _ => ?_))
        exact ⟨((S ++ (rsx.map Ar.body).reverse) ++ lx.reverse, O ++ [.mk kx nx tx nsx ysx lx rsx px], _, _), hnew, by simp only [List.length_append, List.length_cons, List.length_nil]; omega, x_wkd 2 ⟨rfl, rfl, trivial⟩ (by simp only [List.map_id_fun, id_eq, List.length_append, List.length_cons, List.length_nil, Ex.all_app, Ex.all_one]; rfl) (by repeat (first | exact ag_refl | refine ag_upd rfl ?_ | refine ag_at rfl rfl ?_))⟩
  · have h0 : S0 = [] := by
      have : ¬ (0 : Int) < (S0.length : Int) := of_decide_eq_false h
      exact List.length_eq_zero_iff.1 (by omega)
    subst h0
    simp only [List.reverse_nil, List.flatMap_nil, List.append_nil] at hI
    subst hI
    clear h
    repeat (first | refine gG ?_ | refine zN1 (fun hlen => ?_) | refine zN2 (fun hlen => ?_) | refine zAl (fun _ => ?_) | refine zBx (fun _ => ?_) | refine zAp (fun _ => ?_))
    first | refine zR ?_ | refine zQ ?_
    rfl
end Go.Proofs.Ytldhlbjengpdbaa
namespace Go.Proofs.Ytldhlbjengpdbaa
open Go.RowKit
mutual
def V.nodes : V → Nat
  | .mk _ _ _ l => 1 + V.nodesAll l
def V.nodesAll : List V → Nat
  | [] => 0
  | v :: r => v.nodes + V.nodesAll r
end
def V.kids : V → List V
  | .mk _ _ _ l => l
theorem V.nodesAll_app : ∀ l r : List V, V.nodesAll (l ++ r) = V.nodesAll l + V.nodesAll r
  | [], r => by simp [V.nodesAll]
  | v :: l, r => by rw [List.cons_append, V.nodesAll, V.nodesAll_app l r, V.nodesAll]; omega
theorem V.nodes_kids (v : V) : v.nodes = 1 + V.nodesAll v.kids := by cases v; rfl
theorem V.len_nodes : ∀ l : List V, l.length ≤ V.nodesAll l
  | [] => Nat.le_refl _
  | v :: l => by
    have := V.len_nodes l
    rw [List.length_cons, V.nodesAll, V.nodes_kids]
    omega
theorem V.at_kids {l : List V} {k : Nat} {v : V} (h : l[k]? = some v) : (V.all l)[k * 4 + 3]? = some (V.row v.kids) := by
  have h1 := congrArg (fun r : List T => r[3]?) (V.at h)
  obtain ⟨kv, nv, tv, lv⟩ := v
  simpa [List.getElem?_take, List.getElem?_drop, V.ts, V.kids, V.row] using h1
def Ar.pn (a : Ar) : Nat := a.pat.nodes
def Ex.count1 (x : Ex) : Nat := 1 + (x.arms.map Ar.pn).sum
def Ex.count (e : Ex) : Nat := (e.walk.map Ex.count1).sum
def Pr.count (p : Pr) : Nat := (p.bodies.map Ex.count).sum
theorem tsum_snoc {α : Type} (f : α → Nat) {l : List α} {k : Nat} {a : α} (h : l[k]? = some a) : ((l.take (k + 1)).map f).sum = ((l.take k).map f).sum + f a := by
  obtain ⟨h1, rfl⟩ := List.getElem?_eq_some_iff.1 h
  rw [List.take_succ_eq_append_getElem h1, List.map_append, List.sum_append]
  simp
theorem tsum_le {α : Type} (f : α → Nat) (l : List α) (k : Nat) : ((l.take k).map f).sum ≤ (l.map f).sum := by
  have := congrArg (fun r => (List.map f r).sum) (List.take_append_drop k l)
  simp only [List.map_append, List.sum_append] at this
  omega
theorem Ex.walk_count (e : Ex) : e.walk.length ≤ e.count := by
  have h : ∀ l : List Ex, l.length ≤ (l.map Ex.count1).sum := by
    intro l
    induction l with
    | nil => exact Nat.le_refl _
    | cons a l ih => rw [List.length_cons, List.map_cons, List.sum_cons, Ex.count1]; omega
  exact h e.walk
set_option maxRecDepth 100000 in
set_option maxHeartbeats 4000000 in
theorem pats_af (p : V) (hp : p.nodes ≤ 1048576) : AF Try.prog 30 [p.t] (fun r => ∃ O : List V, O.length = p.nodes ∧ r = V.row O) := by
  obtain ⟨n, hn⟩ : ∃ n, n = p.nodes := ⟨_, rfl⟩
  rw [← hn] at hp ⊢
  obtain ⟨k0, n0, t0, l0⟩ := p
  refine af_enter tok Try.func30 Try.ntmps30 Try.results30 rfl (by kernel_rfl) rfl rfl fun F hX => ?_
  repeat (first | refine gX ?_ | refine zN1 (fun hlen => ?_) | refine zN2 (fun hlen => ?_) | refine zBf ?_ | refine zAp (fun _ => ?_))
  refine zBo (fun v0 => ?_)
  repeat (first | refine gG ?_ | refine zN1 (fun hlen => ?_) | refine zN2 (fun hlen => ?_) | refine zBx (fun _ => ?_) | refine zAp (fun _ => ?_))
  refine x_loop [3, 4, 7, 8, 9, 10, 11, 12, 13, 14, 15, 16, 17, 18, 19] (fun y : List V × Nat × Value => [(3, .own 0 y.2.2), (4, .c (.lit (.int .i64 (y.2.1 : Nat))))]) (fun y => [.row y.2.2 83 4 y.1.length (V.all y.1)])
    (fun y => y.2.1 ≤ y.1.length ∧ y.2.1 + V.nodesAll (y.1.drop y.2.1) = n) (fun y => n - y.2.1) ([.mk k0 n0 t0 l0], 0, v0) ⟨Nat.zero_le _, by simp only [List.drop_zero, V.nodesAll]; omega⟩ ⟨rfl, rfl, trivial⟩ rfl ?_
  rintro ⟨O, i, v⟩ ⟨hi, hI⟩
  dsimp only at hi hI ⊢
  repeat (first | refine gG ?_ | refine zN1 (fun hlen => ?_) | refine zN2 (fun hlen => ?_) | refine zBx (fun _ => ?_) | refine zAp (fun _ => ?_))
  refine x_cond rfl (fun h => ?_) (fun h => ?_)
  · have hi' : i < O.length := by simpa using h
    obtain ⟨a, ha⟩ := nth hi'
    have hd : O.drop i = a :: O.drop (i + 1) := by
      obtain ⟨h1, rfl⟩ := List.getElem?_eq_some_iff.1 ha
      exact List.drop_eq_getElem_cons h1
    have h1 := V.nodes_kids a
    have h2 := V.len_nodes a.kids
    have h3 := V.len_nodes (O.drop (i + 1))
    rw [List.length_drop] at h3
    rw [hd, V.nodesAll] at hI
    have hnew : (i + 1) + V.nodesAll ((O ++ a.kids).drop (i + 1)) = n := by
      rw [List.drop_append_of_le_length (by omega), V.nodesAll_app]
      omega
    have htl : O.length + a.kids.length ≤ 1048576 := by omega
    have hk := V.at_kids ha
    clear h
    repeat (first | refine gG ?_ | refine zN1 (fun hlen => ?_) | refine zN2 (fun hlen => ?_) | refine zBx (fun _ => ?_) | refine zAp (fun _ => ?_))
    refine zIxo i hi' ?_
    repeat (first | refine gG ?_ | refine zN1 (fun hlen => ?_) | refine zN2 (fun hlen => ?_) | refine zBx (fun _ => ?_) | refine zAp (fun _ => ?_))
    refine zElo1 hk ?_
    generalize a.kids = l at *
    repeat (first | refine gG ?_ | refine zN1 (fun hlen => ?_) | refine zN2 (fun hlen => ?_) | refine zBx (fun _ => ?_) | refine zAp (fun _ => ?_))
    exact ⟨(O ++ l, i + 1, _), ⟨by simp only [List.length_append]; omega, hnew⟩, by simp only; omega, x_wkd 1 ⟨rfl, rfl, trivial⟩ (by simp only [List.length_append, V.all_app']; rfl) (by repeat (first | exact ag_refl | refine ag_upd rfl ?_ | refine ag_at rfl rfl ?_))⟩
  · have hi' : i = O.length := by
      have : ¬ i < O.length := by simpa using h
      omega
    subst hi'
    rw [List.drop_length, V.nodesAll, Nat.add_zero] at hI
    clear h
    repeat (first | refine gG ?_ | refine zN1 (fun hlen => ?_) | refine zN2 (fun hlen => ?_) | refine zBx (fun _ => ?_) | refine zAp (fun _ => ?_))
    first | refine zR ?_ | refine zQ ?_
    exact ⟨O, hI, rfl⟩
set_option maxRecDepth 100000 in
set_option maxHeartbeats 4000000 in
theorem sizeOf_af (e : Ex) (he : e.count ≤ 1048576) : AF Try.prog 17 [e.t] (· = .lit (.int .i64 (e.count : Nat))) := by
  have hc := all_af e (Nat.le_trans e.walk_count he)
  unfold Ex.count at he ⊢
  generalize e.walk = W at *
  obtain ⟨k0, n0, t0, ns0, ys0, l0, rs0, p0⟩ := e
  refine af_enter tok Try.func17 Try.ntmps17 Try.results17 rfl (by kernel_rfl) rfl rfl fun F hX => ?_
  repeat (first | refine gG ?_ | refine zN1 (fun hlen => ?_) | refine zN2 (fun hlen => ?_) | refine zAl (fun _ => ?_) | refine zBf ?_)
  refine zCall (hc) ?_
  rintro _ rfl
  repeat (first | refine gG ?_ | refine zN1 (fun hlen => ?_) | refine zN2 (fun hlen => ?_) | refine zAl (fun _ => ?_) | refine zBx (fun _ => ?_))
  refine x_drop 0 rfl ?_
  refine x_loop [3, 5, 7, 11, 12, 13, 14, 15, 16, 17, 18, 19, 20, 21, 22, 23, 24, 25, 26, 27, 28, 29, 30, 31] (fun k : Nat => [(11, .c (.lit (.int .i64 (k : Nat)))), (3, .c (.lit (.int .i64 ((((W.take k).map Ex.count1).sum : Nat) : Int))))]) (fun _ => []) (fun k => k ≤ W.length) (fun k => W.length - k) 0 (Nat.zero_le _) ⟨rfl, rfl, trivial⟩ rfl ?_
  intro k hk
  repeat (first | refine gG ?_ | refine zN1 (fun hlen => ?_) | refine zN2 (fun hlen => ?_) | refine zAl (fun _ => ?_) | refine zBx (fun _ => ?_))
  refine x_cond rfl (fun h => ?_) (fun h => ?_)
  · have hk' : k < W.length := by simpa using h
    obtain ⟨x, hx⟩ := nth hk'
    have hs1 := tsum_snoc Ex.count1 hx
    have hs2 := tsum_le Ex.count1 W (k + 1)
    have hs3 : x.count1 = 1 + (x.arms.map Ar.pn).sum := rfl
    clear h
    repeat (first | refine gG ?_ | refine zN1 (fun hlen => ?_) | refine zN2 (fun hlen => ?_) | refine zAl (fun _ => ?_) | refine zBx (fun _ => ?_))
    refine zIx (k) (hk') ?_
    repeat (first | refine gG ?_ | refine zN1 (fun hlen => ?_) | refine zN2 (fun hlen => ?_) | refine zAl (fun _ => ?_) | refine zBx (fun _ => ?_))
    refine zEl (Ex.at hx) (Ex.ts_len x) ?_
    generalize x.count1 = cx at *
    obtain ⟨kx, nx, tx, nsx, ysx, lx, rsx, px⟩ := x
    dsimp only [Ex.arms] at hs3
    generalize ((W.take k).map Ex.count1).sum = acc at *
    generalize hacc' : ((W.take (k + 1)).map Ex.count1).sum = acc' at *
    repeat (first | refine gG ?_ | refine zN1 (fun hlen => ?_) | refine zN2 (fun hlen => ?_) | refine zAl (fun _ => ?_) | refine zBx (fun _ => ?_))
    refine x_drop 0 rfl ?_
    refine x_loop [3, 7, 20, 21, 22, 23, 24, 25, 26, 27, 28, 29, 30] (fun j : Nat => [(20, .c (.lit (.int .i64 (j : Nat)))), (3, .c (.lit (.int .i64 ((acc + 1 + ((rsx.take j).map Ar.pn).sum : Nat) : Int))))]) (fun _ => []) (fun j => j ≤ rsx.length) (fun j => rsx.length - j) 0 (Nat.zero_le _) ⟨rfl, by simp only [List.take_zero, List.map_nil, List.sum_nil, Nat.add_zero]; rfl, trivial⟩ rfl ?_
    intro j hj
    repeat (first | refine gG ?_ | refine zN1 (fun hlen => ?_) | refine zN2 (fun hlen => ?_) | refine zAl (fun _ => ?_) | refine zBx (fun _ => ?_))
    refine x_cond rfl (fun h => ?_) (fun h => ?_)
    · have hj' : j < rsx.length := by simpa using h
      obtain ⟨r, hr⟩ := nth hj'
      have ht1 := tsum_snoc Ar.pn hr
      have ht2 := tsum_le Ar.pn rsx (j + 1)
      rw [show Ar.pn r = r.pat.nodes from rfl] at ht1
      have hpc := pats_af r.pat (by omega)
      generalize r.pat.nodes = pn at *
      clear h
      repeat (first | refine gG ?_ | refine zN1 (fun hlen => ?_) | refine zN2 (fun hlen => ?_) | refine zAl (fun _ => ?_) | refine zBx (fun _ => ?_))
      refine zIx (j) (hj') ?_
      repeat (first | refine gG ?_ | refine zN1 (fun hlen => ?_) | refine zN2 (fun hlen => ?_) | refine zAl (fun _ => ?_) | refine zBx (fun _ => ?_))
      refine zEl (Ar.at hr) (Ar.ts_len r) ?_
      obtain ⟨⟨kp, np, tp, lp⟩, ⟨kb, nb, tb, nsb, ysb, lb, rsb, pb⟩⟩ := r
      dsimp only [Ar.pat] at hpc
      repeat (first | refine gG ?_ | refine zN1 (fun hlen => ?_) | refine zN2 (fun hlen => ?_) | refine zAl (fun _ => ?_) | refine zBx (fun _ => ?_))
      refine zCall (hpc) ?_
      rintro _ ⟨O, hO, rfl⟩
      repeat (first | refine gG ?_ | refine zN1 (fun hlen => ?_) | refine zN2 (fun hlen => ?_) | refine zAl (fun _ => ?_) | refine zBx (fun _ => ?_))
      refine lo_add rfl rfl (r := ((acc + 1 + ((rsx.take j).map Ar.pn).sum + pn : Nat) : Int)) (by rw [hO, IntWalk.i64_in _ (by omega)]; omega) ?_
      repeat (first | refine gG ?_ | refine zN1 (fun hlen => ?_) | refine zN2 (fun hlen => ?_) | refine zAl (fun _ => ?_) | refine zBx (fun _ => ?_))
      exact ⟨j + 1, hj', by omega, x_wkd 0 ⟨rfl, by rw [ht1, ← Nat.add_assoc]; rfl, trivial⟩ rfl (by repeat (first | exact ag_refl | refine ag_upd rfl ?_ | refine ag_at rfl rfl ?_))⟩
    · have hj' : j = rsx.length := by
        have : ¬ j < rsx.length := by simpa using h
        omega
      subst hj'
      clear h
      rw [List.take_length]
      repeat (first | refine gG ?_ | refine zN1 (fun hlen => ?_) | refine zN2 (fun hlen => ?_) | refine zAl (fun _ => ?_) | refine zBx (fun _ => ?_))
      exact ⟨k + 1, hk', by omega, x_wkd 0 ⟨rfl, by rw [hacc', hs1, hs3, ← Nat.add_assoc]; rfl, trivial⟩ rfl (by repeat (first | exact ag_refl | refine ag_upd rfl ?_ | refine ag_at rfl rfl ?_))⟩
  · have hk' : k = W.length := by
      have : ¬ k < W.length := by simpa using h
      omega
    subst hk'
    clear h
    rw [List.take_length]
    repeat (first | refine gG ?_ | refine zN1 (fun hlen => ?_) | refine zN2 (fun hlen => ?_) | refine zAl (fun _ => ?_) | refine zBx (fun _ => ?_))
    first | refine zR ?_ | refine zQ ?_
    rfl
set_option maxRecDepth 100000 in
set_option maxHeartbeats 4000000 in
theorem small_af (p : Pr) (hp : p.count ≤ 1048576) (hl : p.bodies.length ≤ 1048576) : AF Try.prog 4 [p.t] (· = .lit (.bool (decide ((p.count : Int) ≤ 400)))) := by
  have hc := bodiesOf_af p hl
  unfold Pr.count at hp ⊢
  generalize p.bodies = W at *
  obtain ⟨nm, vr, us, ds, trs, ims, fus, acs⟩ := p
  refine af_enter tok Try.func4 Try.ntmps4 Try.results4 rfl (by kernel_rfl) rfl rfl fun F hX => ?_
  repeat (first | refine gG ?_ | refine zN1 (fun hlen => ?_) | refine zN2 (fun hlen => ?_) | refine zAl (fun _ => ?_) | refine zBf ?_)
  refine zCall (hc) ?_
  rintro _ rfl
  repeat (first | refine gG ?_ | refine zN1 (fun hlen => ?_) | refine zN2 (fun hlen => ?_) | refine zAl (fun _ => ?_) | refine zBx (fun _ => ?_))
  refine x_drop 0 rfl ?_
  refine x_loop [3, 5, 9, 10, 11, 12, 13, 14, 15, 16, 17] (fun k : Nat => [(9, .c (.lit (.int .i64 (k : Nat)))), (3, .c (.lit (.int .i64 ((((W.take k).map Ex.count).sum : Nat) : Int))))]) (fun _ => []) (fun k => k ≤ W.length) (fun k => W.length - k) 0 (Nat.zero_le _) ⟨rfl, rfl, trivial⟩ rfl ?_
  intro k hk
  repeat (first | refine gG ?_ | refine zN1 (fun hlen => ?_) | refine zN2 (fun hlen => ?_) | refine zAl (fun _ => ?_) | refine zBx (fun _ => ?_))
  refine x_cond rfl (fun h => ?_) (fun h => ?_)
  · have hk' : k < W.length := by simpa using h
    obtain ⟨x, hx⟩ := nth hk'
    have hs1 := tsum_snoc Ex.count hx
    have hs2 := tsum_le Ex.count W (k + 1)
    have hsc := sizeOf_af x (by omega)
    clear h
    repeat (first | refine gG ?_ | refine zN1 (fun hlen => ?_) | refine zN2 (fun hlen => ?_) | refine zAl (fun _ => ?_) | refine zBx (fun _ => ?_))
    refine zIx (k) (hk') ?_
    repeat (first | refine gG ?_ | refine zN1 (fun hlen => ?_) | refine zN2 (fun hlen => ?_) | refine zAl (fun _ => ?_) | refine zBx (fun _ => ?_))
    refine zEl (Ex.at hx) (Ex.ts_len x) ?_
    generalize x.count = cx at *
    obtain ⟨kx, nx, tx, nsx, ysx, lx, rsx, px⟩ := x
    repeat (first | refine gG ?_ | refine zN1 (fun hlen => ?_) | refine zN2 (fun hlen => ?_) | refine zAl (fun _ => ?_) | refine zBx (fun _ => ?_))
    refine zCall (hsc) ?_
    rintro _ rfl
    repeat (first | refine gG ?_ | refine zN1 (fun hlen => ?_) | refine zN2 (fun hlen => ?_) | refine zAl (fun _ => ?_) | refine zBx (fun _ => ?_))
    refine lo_add rfl rfl (r := ((((W.take k).map Ex.count).sum + cx : Nat) : Int)) (by rw [IntWalk.i64_in _ (by omega)]; omega) ?_
    repeat (first | refine gG ?_ | refine zN1 (fun hlen => ?_) | refine zN2 (fun hlen => ?_) | refine zAl (fun _ => ?_) | refine zBx (fun _ => ?_))
    exact ⟨k + 1, hk', by omega, x_wkd 0 ⟨rfl, by rw [hs1]; rfl, trivial⟩ rfl (by repeat (first | exact ag_refl | refine ag_upd rfl ?_ | refine ag_at rfl rfl ?_))⟩
  · have hk' : k = W.length := by
      have : ¬ k < W.length := by simpa using h
      omega
    subst hk'
    clear h
    rw [List.take_length]
    repeat (first | refine gG ?_ | refine zN1 (fun hlen => ?_) | refine zN2 (fun hlen => ?_) | refine zAl (fun _ => ?_) | refine zBx (fun _ => ?_))
    first | refine zR ?_ | refine zQ ?_
    rfl
end Go.Proofs.Ytldhlbjengpdbaa
namespace Go.Proofs.Ytldhlbjengpdbaa
open Go.RowKit
theorem Y.mass_pos (v : Y) : 1 ≤ v.mass := by cases v; rename_i k _ _; have := far_pos k; simp only [Y.mass]; omega
theorem V.mass_pos (v : V) : 1 ≤ v.mass := by cases v; rename_i k _ _ _; have := far_pos k; simp only [V.mass]; omega
theorem Ex.mass_pos (v : Ex) : 1 ≤ v.mass := by cases v; rename_i k _ _ _ _ _ _ _; have := far_pos k; simp only [Ex.mass]; omega
theorem Ar.mass_pos (v : Ar) : 1 ≤ v.mass := by cases v; rename_i p _; have := V.mass_pos p; simp only [Ar.mass]; omega
theorem Us.mass_pos (v : Us) : 1 ≤ v.mass := by unfold Us.mass; omega
theorem Mk.mass_pos (v : Mk) : 1 ≤ v.mass := by unfold Mk.mass; omega
theorem Da.mass_pos (v : Da) : 1 ≤ v.mass := by unfold Da.mass; omega
theorem Fu.mass_pos (v : Fu) : 1 ≤ v.mass := by unfold Fu.mass; omega
theorem Tr.mass_pos (v : Tr) : 1 ≤ v.mass := by unfold Tr.mass; omega
theorem Im.mass_pos (v : Im) : 1 ≤ v.mass := by unfold Im.mass; omega
theorem Ac.mass_pos (v : Ac) : 1 ≤ v.mass := by unfold Ac.mass; omega
theorem sumle {α : Type} (f g : α → Nat) : ∀ l : List α, (∀ a ∈ l, f a ≤ g a) → (l.map f).sum ≤ (l.map g).sum
  | [], _ => Nat.le_refl _
  | a :: l, h => by
    have h1 := h a (by simp)
    have h2 := sumle f g l (fun x hx => h x (List.mem_cons_of_mem _ hx))
    rw [List.map_cons, List.sum_cons, List.map_cons, List.sum_cons]
    omega
theorem V.nodesAll_sum : ∀ l : List V, V.nodesAll l = (l.map V.nodes).sum
  | [] => rfl
  | v :: l => by rw [V.nodesAll, V.nodesAll_sum l]; rfl
theorem V.nodes_le (v : V) : v.nodes ≤ v.mass := by
  induction v using V.ind with
  | h k n t l ih =>
    have := far_pos k
    have h := sumle V.nodes V.mass l ih
    simp only [V.nodes, V.nodesAll_sum, V.mass, V.masses_sum]
    omega
theorem wsum_flat (l : List Ex) : ((l.flatMap Ex.walk).map Ex.count1).sum = (l.map Ex.count).sum := by
  induction l with
  | nil => rfl
  | cons a l ih => rw [List.flatMap_cons, List.map_append, List.sum_append, ih, List.map_cons, List.sum_cons]; rfl
theorem Ex.count_eq (e : Ex) : e.count = e.count1 + (e.nexts.map Ex.count).sum := by
  rw [Ex.count, Ex.walk_eq, List.map_cons, List.sum_cons, wsum_flat]
theorem arsum (rs : List Ar) : (rs.map Ar.pn).sum + ((rs.map Ar.body).map Ex.count).sum = (rs.map fun r => r.pn + r.body.count).sum := by
  induction rs with
  | nil => rfl
  | cons a l ih => simp only [List.map_cons, List.sum_cons]; omega
theorem Ex.count_le (e : Ex) : e.count ≤ e.mass := by
  induction e using Ex.ind with
  | h k n t ns ys l rs a ih1 ih2 =>
    have h0 := far_pos k
    have h1 := sumle Ex.count Ex.mass l ih1
    have h2 := sumle (fun r : Ar => r.pn + r.body.count) Ar.mass rs (fun r hr => by
      obtain ⟨p, b⟩ := r
      have := ih2 _ hr p b rfl
      have := p.nodes_le
      simp only [Ar.pn, Ar.pat, Ar.body, Ar.mass]
      omega)
    have h3 := arsum rs
    rw [Ex.count_eq]
    simp only [Ex.count1, Ex.nexts, Ex.args, Ex.arms, Ex.mass, Ex.masses_sum, Ar.masses_sum, List.map_append, List.sum_append]
    omega
theorem fsum (l : List Im) : ((l.flatMap Im.funcs).map Fu.mass).sum ≤ (l.map Im.mass).sum := by
  induction l with
  | nil => exact Nat.le_refl _
  | cons a l ih => simp only [List.flatMap_cons, List.map_append, List.sum_append, List.map_cons, List.sum_cons, Im.mass]; omega
theorem Pr.masses (p : Pr) : (p.bodies.map Ex.mass).sum ≤ p.mass := by
  have h1 := fsum p.impls
  have h2 := sumle (fun f : Fu => f.body.mass) Fu.mass p.funs (fun f _ => by unfold Fu.mass; omega)
  have h3 := sumle (fun f : Ac => f.body.mass) Ac.mass p.actors (fun f _ => by unfold Ac.mass; omega)
  have e1 : (p.funs.map Fu.mass).sum = ((p.impls.flatMap Im.funcs).map Fu.mass).sum + (p.funcs.map Fu.mass).sum := by rw [Pr.funs, List.map_append, List.sum_append]
  rw [Pr.bodies, List.map_append, List.sum_append, List.map_map, List.map_map]
  unfold Pr.mass
  have e2 : (Ex.mass ∘ Fu.body) = fun f : Fu => f.body.mass := rfl
  have e3 : (Ex.mass ∘ Ac.body) = fun f : Ac => f.body.mass := rfl
  rw [e2, e3]
  omega
theorem Pr.count_le (p : Pr) : p.count ≤ p.mass := Nat.le_trans (sumle Ex.count Ex.mass p.bodies fun e _ => e.count_le) p.masses
theorem Pr.bodies_le (p : Pr) : p.bodies.length ≤ p.mass := Nat.le_trans (len_sum' Ex.mass Ex.mass_pos p.bodies) p.masses
end Go.Proofs.Ytldhlbjengpdbaa
namespace Go.Proofs.Ytldhlbjengpdbaa
open Go.RowKit
mutual
def V.binds : V → List ByteArray
  | .mk k _ t l => bif decide (k = 2) then [t] else bif decide (k = 6) then V.bindsAll l else []
def V.bindsAll : List V → List ByteArray
  | [] => []
  | v :: r => v.binds ++ V.bindsAll r
end
theorem V.bindsAll_eq : ∀ l : List V, V.bindsAll l = l.flatMap V.binds
  | [] => rfl
  | v :: l => by rw [V.bindsAll, V.bindsAll_eq l]; rfl
theorem binds_flat {f : V → Nat} : ∀ {l : List V}, (∀ a ∈ l, a.binds.length ≤ f a) → (l.flatMap V.binds).length ≤ (l.map f).sum
  | [], _ => Nat.le_refl _
  | a :: l, h => by
    have h1 := h a (by simp)
    have h2 := binds_flat (l := l) (fun x hx => h x (List.mem_cons_of_mem _ hx))
    rw [List.flatMap_cons, List.length_append, List.map_cons, List.sum_cons]
    omega
theorem V.binds_len (v : V) : v.binds.length ≤ v.nodes := by
  induction v using V.ind with
  | h k n t l ih =>
    have := binds_flat ih
    rw [V.binds, V.bindsAll_eq, V.nodes, V.nodesAll_sum]
    cases decide (k = 2) with
    | true => simp
    | false =>
      cases decide (k = 6) with
      | true => simp only [cond]; omega
      | false => simp
theorem binds_le (l : List V) : (l.flatMap V.binds).length ≤ (l.map V.nodes).sum := binds_flat fun a _ => a.binds_len
set_option maxRecDepth 100000 in
set_option maxHeartbeats 4000000 in
theorem bound_af (p : V) : p.nodes ≤ 1048576 → AF Try.prog 40 [p.t] (· = strRow p.binds) := by
  induction p using V.ind with
  | h k0 n0 t0 l ih =>
    intro hp
    rw [V.nodes, V.nodesAll_sum] at hp
    rw [V.binds, V.bindsAll_eq]
    refine af_enter tok Try.func40 Try.ntmps40 Try.results40 rfl (by kernel_rfl) rfl rfl fun F hX => ?_
    repeat (first | refine gG ?_ | refine zN1 (fun hlen => ?_) | refine zN2 (fun hlen => ?_) | refine zAl (fun _ => ?_) | refine zBf ?_ | refine zAp (fun _ => ?_))
    refine x_cond rfl (fun h0 => ?_) (fun h0 => ?_)
    · rw [h0]
      repeat (first | refine gG ?_ | refine zN1 (fun hlen => ?_) | refine zN2 (fun hlen => ?_) | refine zAl (fun _ => ?_) | refine zBx (fun _ => ?_) | refine zAp (fun _ => ?_))
      first | refine zR ?_ | refine zQ ?_
      rfl
    · rw [h0]
      repeat (first | refine gG ?_ | refine zN1 (fun hlen => ?_) | refine zN2 (fun hlen => ?_) | refine zAl (fun _ => ?_) | refine zBx (fun _ => ?_) | refine zAp (fun _ => ?_))
      refine x_cond rfl (fun h1 => ?_) (fun h1 => ?_)
      · rw [h1]
        dsimp only [cond]
        clear h0 h1
        repeat (first | refine gG ?_ | refine zN1 (fun hlen => ?_) | refine zN2 (fun hlen => ?_) | refine zAl (fun _ => ?_) | refine zBx (fun _ => ?_) | refine zAp (fun _ => ?_))
        refine x_own 3 9 1 rfl rfl rfl rfl rfl ?_
        refine x_loop [3, 5, 18, 19, 20, 21, 22, 23, 24, 25, 26] (fun y : Nat × Value => [(18, .c (.lit (.int .i64 (y.1 : Nat)))), (3, .own 0 y.2)]) (fun y => [.row y.2 9 1 ((l.take y.1).flatMap V.binds).length (((l.take y.1).flatMap V.binds).flatMap strTs)])
          (fun y => y.1 ≤ l.length) (fun y => l.length - y.1) (0, .slice none 0 0) (Nat.zero_le _) ⟨rfl, rfl, trivial⟩ rfl ?_
        rintro ⟨k, v⟩ hk
        dsimp only at hk ⊢
        repeat (first | refine gG ?_ | refine zN1 (fun hlen => ?_) | refine zN2 (fun hlen => ?_) | refine zAl (fun _ => ?_) | refine zBx (fun _ => ?_) | refine zAp (fun _ => ?_))
        refine x_cond rfl (fun h => ?_) (fun h => ?_)
        · have hk' : k < l.length := by simpa using h
          obtain ⟨a, ha⟩ := nth hk'
          have hb := binds_le (l.take (k + 1))
          have hs2 := tsum_le V.nodes l (k + 1)
          have hsn := flat_snoc' V.binds ha
          have hl1 : ((l.take (k + 1)).flatMap V.binds).length = ((l.take k).flatMap V.binds).length + a.binds.length := by rw [hsn, List.length_append]
          have hc1 : ((l.take (k + 1)).flatMap V.binds).flatMap strTs = ((l.take k).flatMap V.binds).flatMap strTs ++ a.binds.flatMap strTs := by rw [hsn, List.flatMap_append]
          have hc := ih a (List.mem_of_getElem? ha) (by have := sum_mem' V.nodes (List.mem_of_getElem? ha); omega)
          have hat := V.at ha
          clear h ha ih hsn
          generalize a.binds = ab at *
          obtain ⟨ka, na, ta, la⟩ := a
          repeat (first | refine gG ?_ | refine zN1 (fun hlen => ?_) | refine zN2 (fun hlen => ?_) | refine zAl (fun _ => ?_) | refine zBx (fun _ => ?_) | refine zAp (fun _ => ?_))
          refine zIx (k) (hk') ?_
          repeat (first | refine gG ?_ | refine zN1 (fun hlen => ?_) | refine zN2 (fun hlen => ?_) | refine zAl (fun _ => ?_) | refine zBx (fun _ => ?_) | refine zAp (fun _ => ?_))
          refine zEl (hat) (V.ts_len _) ?_
          repeat (first | refine gG ?_ | refine zN1 (fun hlen => ?_) | refine zN2 (fun hlen => ?_) | refine zAl (fun _ => ?_) | refine zBx (fun _ => ?_) | refine zAp (fun _ => ?_))
          refine zCall (hc) ?_
          rintro _ rfl
          repeat (first | refine gG ?_ | refine zN1 (fun hlen => ?_) | refine zN2 (fun hlen => ?_) | refine zAl (fun _ => ?_) | refine zBx (fun _ => ?_) | refine zAp (fun _ => ?_))
          exact ⟨(k + 1, _), hk', by simp only; omega, x_wkd 1 ⟨rfl, rfl, trivial⟩ (by simp only [hl1, hc1]; rfl) (by repeat (first | exact ag_refl | refine ag_upd rfl ?_ | refine ag_at rfl rfl ?_))⟩
        · have hk' : k = l.length := by
            have : ¬ k < l.length := by simpa using h
            omega
          subst hk'
          clear h
          rw [List.take_length]
          repeat (first | refine gG ?_ | refine zN1 (fun hlen => ?_) | refine zN2 (fun hlen => ?_) | refine zAl (fun _ => ?_) | refine zBx (fun _ => ?_) | refine zAp (fun _ => ?_))
          first | refine zR ?_ | refine zQ ?_
          rfl
      · rw [h1]
        dsimp only [cond]
        repeat (first | refine gG ?_ | refine zN1 (fun hlen => ?_) | refine zN2 (fun hlen => ?_) | refine zAl (fun _ => ?_) | refine zBx (fun _ => ?_) | refine zAp (fun _ => ?_))
        first | refine zR (ts := [strRow []]) ?_ | refine zQ (ts := [strRow []]) ?_
        rfl
set_option maxRecDepth 100000 in
set_option maxHeartbeats 4000000 in
theorem namesOf_af (p : V) : p.nodes ≤ 1048576 → AF Try.prog 36 [p.t] (· = strRow p.binds) := by
  induction p using V.ind with
  | h k0 n0 t0 l ih =>
    intro hp
    rw [V.nodes, V.nodesAll_sum] at hp
    rw [V.binds, V.bindsAll_eq]
    refine af_enter tok Try.func36 Try.ntmps36 Try.results36 rfl (by kernel_rfl) rfl rfl fun F hX => ?_
    repeat (first | refine gG ?_ | refine zN1 (fun hlen => ?_) | refine zN2 (fun hlen => ?_) | refine zAl (fun _ => ?_) | refine zBf ?_ | refine zAp (fun _ => ?_))
    refine x_cond rfl (fun h0 => ?_) (fun h0 => ?_)
    · rw [h0]
      repeat (first | refine gG ?_ | refine zN1 (fun hlen => ?_) | refine zN2 (fun hlen => ?_) | refine zAl (fun _ => ?_) | refine zBx (fun _ => ?_) | refine zAp (fun _ => ?_))
      first | refine zR ?_ | refine zQ ?_
      rfl
    · rw [h0]
      repeat (first | refine gG ?_ | refine zN1 (fun hlen => ?_) | refine zN2 (fun hlen => ?_) | refine zAl (fun _ => ?_) | refine zBx (fun _ => ?_) | refine zAp (fun _ => ?_))
      refine x_cond rfl (fun h1 => ?_) (fun h1 => ?_)
      · rw [h1]
        dsimp only [cond]
        clear h0 h1
        repeat (first | refine gG ?_ | refine zN1 (fun hlen => ?_) | refine zN2 (fun hlen => ?_) | refine zAl (fun _ => ?_) | refine zBx (fun _ => ?_) | refine zAp (fun _ => ?_))
        refine x_own 3 9 1 rfl rfl rfl rfl rfl ?_
        refine x_loop [3, 5, 18, 19, 20, 21, 22, 23, 24, 25, 26] (fun y : Nat × Value => [(18, .c (.lit (.int .i64 (y.1 : Nat)))), (3, .own 0 y.2)]) (fun y => [.row y.2 9 1 ((l.take y.1).flatMap V.binds).length (((l.take y.1).flatMap V.binds).flatMap strTs)])
          (fun y => y.1 ≤ l.length) (fun y => l.length - y.1) (0, .slice none 0 0) (Nat.zero_le _) ⟨rfl, rfl, trivial⟩ rfl ?_
        rintro ⟨k, v⟩ hk
        dsimp only at hk ⊢
        repeat (first | refine gG ?_ | refine zN1 (fun hlen => ?_) | refine zN2 (fun hlen => ?_) | refine zAl (fun _ => ?_) | refine zBx (fun _ => ?_) | refine zAp (fun _ => ?_))
        refine x_cond rfl (fun h => ?_) (fun h => ?_)
        · have hk' : k < l.length := by simpa using h
          obtain ⟨a, ha⟩ := nth hk'
          have hb := binds_le (l.take (k + 1))
          have hs2 := tsum_le V.nodes l (k + 1)
          have hsn := flat_snoc' V.binds ha
          have hl1 : ((l.take (k + 1)).flatMap V.binds).length = ((l.take k).flatMap V.binds).length + a.binds.length := by rw [hsn, List.length_append]
          have hc1 : ((l.take (k + 1)).flatMap V.binds).flatMap strTs = ((l.take k).flatMap V.binds).flatMap strTs ++ a.binds.flatMap strTs := by rw [hsn, List.flatMap_append]
          have hc := ih a (List.mem_of_getElem? ha) (by have := sum_mem' V.nodes (List.mem_of_getElem? ha); omega)
          have hat := V.at ha
          clear h ha ih hsn
          generalize a.binds = ab at *
          obtain ⟨ka, na, ta, la⟩ := a
          repeat (first | refine gG ?_ | refine zN1 (fun hlen => ?_) | refine zN2 (fun hlen => ?_) | refine zAl (fun _ => ?_) | refine zBx (fun _ => ?_) | refine zAp (fun _ => ?_))
          refine zIx (k) (hk') ?_
          repeat (first | refine gG ?_ | refine zN1 (fun hlen => ?_) | refine zN2 (fun hlen => ?_) | refine zAl (fun _ => ?_) | refine zBx (fun _ => ?_) | refine zAp (fun _ => ?_))
          refine zEl (hat) (V.ts_len _) ?_
          repeat (first | refine gG ?_ | refine zN1 (fun hlen => ?_) | refine zN2 (fun hlen => ?_) | refine zAl (fun _ => ?_) | refine zBx (fun _ => ?_) | refine zAp (fun _ => ?_))
          refine zCall (hc) ?_
          rintro _ rfl
          repeat (first | refine gG ?_ | refine zN1 (fun hlen => ?_) | refine zN2 (fun hlen => ?_) | refine zAl (fun _ => ?_) | refine zBx (fun _ => ?_) | refine zAp (fun _ => ?_))
          exact ⟨(k + 1, _), hk', by simp only; omega, x_wkd 1 ⟨rfl, rfl, trivial⟩ (by simp only [hl1, hc1]; rfl) (by repeat (first | exact ag_refl | refine ag_upd rfl ?_ | refine ag_at rfl rfl ?_))⟩
        · have hk' : k = l.length := by
            have : ¬ k < l.length := by simpa using h
            omega
          subst hk'
          clear h
          rw [List.take_length]
          repeat (first | refine gG ?_ | refine zN1 (fun hlen => ?_) | refine zN2 (fun hlen => ?_) | refine zAl (fun _ => ?_) | refine zBx (fun _ => ?_) | refine zAp (fun _ => ?_))
          first | refine zR ?_ | refine zQ ?_
          rfl
      · rw [h1]
        dsimp only [cond]
        repeat (first | refine gG ?_ | refine zN1 (fun hlen => ?_) | refine zN2 (fun hlen => ?_) | refine zAl (fun _ => ?_) | refine zBx (fun _ => ?_) | refine zAp (fun _ => ?_))
        first | refine zR (ts := [strRow []]) ?_ | refine zQ (ts := [strRow []]) ?_
        rfl
end Go.Proofs.Ytldhlbjengpdbaa
namespace Go.Proofs.Ytldhlbjengpdbaa
open Go.RowKit
mutual
def Ex.clear : Ex → Ex
  | .mk k n t ns ys l rs _ => .mk k n t ns ys (Ex.clears l) (Ar.clears rs) 0
def Ex.clears : List Ex → List Ex
  | [] => []
  | v :: r => v.clear :: Ex.clears r
def Ar.clears : List Ar → List Ar
  | [] => []
  | .mk p b :: r => .mk p b.clear :: Ar.clears r
end
def Ar.clear : Ar → Ar
  | .mk p b => .mk p b.clear
end Go.Proofs.Ytldhlbjengpdbaa
namespace Go.Proofs.Ytldhlbjengpdbaa
open Go.RowKit
def Ex.pos : Ex → Int
  | .mk _ _ _ _ _ _ _ p => p
end Go.Proofs.Ytldhlbjengpdbaa
namespace Go.Proofs.Ytldhlbjengpdbaa
open Go.RowKit
def hasS (l : List ByteArray) (s : ByteArray) : Bool := l.any fun x => decide (x = s)
theorem hasS_app (l r : List ByteArray) (s : ByteArray) : hasS (l ++ r) s = (hasS l s || hasS r s) := by simp [hasS]
theorem hasS_one (x s : ByteArray) : hasS [x] s = decide (x = s) := by simp [hasS]
end Go.Proofs.Ytldhlbjengpdbaa
