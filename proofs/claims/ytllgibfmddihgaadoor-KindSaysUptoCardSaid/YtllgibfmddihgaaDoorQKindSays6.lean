/-
  Texts of this proof, part 6: Tex Tmz Tit Tma Tmb Tmc Tme Tmh Tmi.
-/
import Derived.Test.YtllgibfmddihgaaDoorQKindSays5
import Derived.Laws.StructEq
import Derived.Lib.AppendStr
import Derived.Lib.ItoaNum
import Derived.Lib.MinMax
namespace Go.Proofs.YtllgibfmddihgaaDoor
open Go.RowKit
mutual
inductive Ex where
  | mk (kind num : Int) (text : ByteArray) (names : List ByteArray) (types : List Y) (args : List Ex) (arms : List Ar) (pos : Int)
inductive Ar where
  | mk (pat : V) (body : Ex)
end
mutual
def Ex.ts : Ex → List T
  | .mk k n t ns ys l rs a => [.lit (.int .i64 k), .lit (.int .i64 n), .lit (.string t), strRow ns, Y.row ys, .row l.length 8 (Ex.all l), .row rs.length 12 (Ar.all rs), .lit (.int .i64 a)]
def Ex.all : List Ex → List T
  | [] => []
  | v :: r => v.ts ++ Ex.all r
def Ar.ts : Ar → List T
  | .mk p b => p.ts ++ b.ts
def Ar.all : List Ar → List T
  | [] => []
  | v :: r => v.ts ++ Ar.all r
end
theorem Ex.all_eq : ∀ l : List Ex, Ex.all l = l.flatMap Ex.ts
  | [] => rfl
  | v :: l => by rw [Ex.all, Ex.all_eq l]; rfl
theorem Ar.all_eq : ∀ l : List Ar, Ar.all l = l.flatMap Ar.ts
  | [] => rfl
  | v :: l => by rw [Ar.all, Ar.all_eq l]; rfl
theorem Ex.ts_len : ∀ v : Ex, v.ts.length = 8
  | .mk _ _ _ _ _ _ _ _ => rfl
theorem Ar.ts_len : ∀ v : Ar, v.ts.length = 12
  | .mk p b => by rw [Ar.ts, List.length_append, V.ts_len, Ex.ts_len]
def Ex.row (l : List Ex) : T := .row l.length 8 (Ex.all l)
def Ex.t (v : Ex) : T := .agg v.ts
def Ar.row (l : List Ar) : T := .row l.length 12 (Ar.all l)
theorem Ex.at {l : List Ex} {k : Nat} {v : Ex} (h : l[k]? = some v) : ((Ex.all l).drop (k * 8)).take 8 = v.ts := by rw [Ex.all_eq]; exact flat_at Ex.ts 8 Ex.ts_len h
theorem Ar.at {l : List Ar} {k : Nat} {v : Ar} (h : l[k]? = some v) : ((Ar.all l).drop (k * 12)).take 12 = v.ts := by rw [Ar.all_eq]; exact flat_at Ar.ts 12 Ar.ts_len h
theorem Ex.all_app (l r : List Ex) : Ex.all (l ++ r) = Ex.all l ++ Ex.all r := by simp [Ex.all_eq]
theorem Ex.all_one (v : Ex) : Ex.all [v] = v.ts := by simp [Ex.all]
theorem V.all_app' (l r : List V) : V.all (l ++ r) = V.all l ++ V.all r := by simp [V.all_eq]
def strSize (l : List ByteArray) : Nat := (l.map fun s => s.size + 1).sum
mutual
def Ex.size : Ex → Nat
  | .mk _ _ t ns ys l rs _ => t.size + strSize ns + Y.sizes ys + Ex.sizes l + Ar.sizes rs + 1
def Ex.sizes : List Ex → Nat
  | [] => 0
  | v :: r => v.size + Ex.sizes r
def Ar.size : Ar → Nat
  | .mk p b => p.size + b.size
def Ar.sizes : List Ar → Nat
  | [] => 0
  | v :: r => v.size + Ar.sizes r
end
theorem Ex.sizes_sum : ∀ l : List Ex, Ex.sizes l = (l.map Ex.size).sum
  | [] => rfl
  | v :: l => by simp [Ex.sizes, Ex.sizes_sum l]
theorem Ar.sizes_sum : ∀ l : List Ar, Ar.sizes l = (l.map Ar.size).sum
  | [] => rfl
  | v :: l => by simp [Ar.sizes, Ar.sizes_sum l]
theorem sum_mem' {α : Type} (μ : α → Nat) : ∀ {l : List α} {a : α}, a ∈ l → μ a ≤ (l.map μ).sum
  | [], _, h => by simp at h
  | x :: l, a, h => by
    simp only [List.map_cons, List.sum_cons]
    rcases List.mem_cons.1 h with rfl | h
    · omega
    · have := sum_mem' μ h; omega
theorem len_sum' {α : Type} (μ : α → Nat) (h : ∀ a, 1 ≤ μ a) : ∀ l : List α, l.length ≤ (l.map μ).sum
  | [] => by simp
  | x :: l => by have := h x; have := len_sum' μ h l; simp only [List.map_cons, List.sum_cons, List.length_cons]; omega
theorem Ex.size_mem {v : Ex} {l : List Ex} (h : v ∈ l) : v.size ≤ Ex.sizes l := by rw [Ex.sizes_sum]; exact sum_mem' Ex.size h
theorem Ar.size_mem {v : Ar} {l : List Ar} (h : v ∈ l) : v.size ≤ Ar.sizes l := by rw [Ar.sizes_sum]; exact sum_mem' Ar.size h
theorem Ex.size_pos : ∀ v : Ex, 1 ≤ v.size
  | .mk _ _ _ _ _ _ _ _ => by simp only [Ex.size]; omega
theorem Ar.size_pos : ∀ v : Ar, 1 ≤ v.size
  | .mk p b => by have := b.size_pos; simp only [Ar.size]; omega
theorem strSize_len (l : List ByteArray) : l.length ≤ strSize l := len_sum' (fun s : ByteArray => s.size + 1) (fun _ => by omega) l
instance : Inhabited Ex := ⟨.mk 0 0 ⟨#[]⟩ [] [] [] [] 0⟩
instance : Inhabited Ar := ⟨.mk (.mk 0 0 ⟨#[]⟩ []) default⟩
structure Us where
  name : ByteArray
  low : Int
  high : Int
def Us.ts : Us → List T
  | ⟨f_name, f_low, f_high⟩ => [.lit (.string f_name), .lit (.int .i64 f_low), .lit (.int .i64 f_high)]
theorem Us.ts_len (x : Us) : x.ts.length = 3 := by simp [Us.ts]
def Us.t (x : Us) : T := .agg x.ts
def Us.row (l : List Us) : T := .row l.length 3 (l.flatMap Us.ts)
theorem Us.at {l : List Us} {k : Nat} {x : Us} (h : l[k]? = some x) : ((l.flatMap Us.ts).drop (k * 3)).take 3 = x.ts := flat_at Us.ts 3 Us.ts_len h
def Us.size : Us → Nat
  | ⟨f_name, _, _⟩ => f_name.size + 1
def Us.sizes (l : List Us) : Nat := (l.map Us.size).sum
theorem Us.size_mem {x : Us} {l : List Us} (h : x ∈ l) : x.size ≤ Us.sizes l := sum_mem' Us.size h
instance : Inhabited Us := ⟨⟨⟨#[]⟩, 0, 0⟩⟩
structure Mk where
  name : ByteArray
  args : List Y
def Mk.ts : Mk → List T
  | ⟨f_name, f_args⟩ => [.lit (.string f_name), Y.row f_args]
theorem Mk.ts_len (x : Mk) : x.ts.length = 2 := by simp [Mk.ts]
def Mk.t (x : Mk) : T := .agg x.ts
def Mk.row (l : List Mk) : T := .row l.length 2 (l.flatMap Mk.ts)
theorem Mk.at {l : List Mk} {k : Nat} {x : Mk} (h : l[k]? = some x) : ((l.flatMap Mk.ts).drop (k * 2)).take 2 = x.ts := flat_at Mk.ts 2 Mk.ts_len h
def Mk.size : Mk → Nat
  | ⟨f_name, f_args⟩ => f_name.size + Y.sizes f_args + 1
def Mk.sizes (l : List Mk) : Nat := (l.map Mk.size).sum
theorem Mk.size_mem {x : Mk} {l : List Mk} (h : x ∈ l) : x.size ≤ Mk.sizes l := sum_mem' Mk.size h
instance : Inhabited Mk := ⟨⟨⟨#[]⟩, []⟩⟩
structure Da where
  name : ByteArray
  params : List ByteArray
  makes : List Mk
def Da.ts : Da → List T
  | ⟨f_name, f_params, f_makes⟩ => [.lit (.string f_name), strRow f_params, Mk.row f_makes]
theorem Da.ts_len (x : Da) : x.ts.length = 3 := by simp [Da.ts]
def Da.t (x : Da) : T := .agg x.ts
def Da.row (l : List Da) : T := .row l.length 3 (l.flatMap Da.ts)
theorem Da.at {l : List Da} {k : Nat} {x : Da} (h : l[k]? = some x) : ((l.flatMap Da.ts).drop (k * 3)).take 3 = x.ts := flat_at Da.ts 3 Da.ts_len h
def Da.size : Da → Nat
  | ⟨f_name, f_params, f_makes⟩ => f_name.size + strSize f_params + Mk.sizes f_makes + 1
def Da.sizes (l : List Da) : Nat := (l.map Da.size).sum
theorem Da.size_mem {x : Da} {l : List Da} (h : x ∈ l) : x.size ≤ Da.sizes l := sum_mem' Da.size h
instance : Inhabited Da := ⟨⟨⟨#[]⟩, [], []⟩⟩
structure Fu where
  name : ByteArray
  params : List ByteArray
  names : List ByteArray
  types : List Y
  out : Y
  body : Ex
def Fu.ts : Fu → List T
  | ⟨f_name, f_params, f_names, f_types, f_out, f_body⟩ => [.lit (.string f_name), strRow f_params, strRow f_names, Y.row f_types] ++ f_out.ts ++ f_body.ts
theorem Fu.ts_len (x : Fu) : x.ts.length = 15 := by simp [Fu.ts, Ex.ts_len, Y.ts_len]
def Fu.t (x : Fu) : T := .agg x.ts
def Fu.row (l : List Fu) : T := .row l.length 15 (l.flatMap Fu.ts)
theorem Fu.at {l : List Fu} {k : Nat} {x : Fu} (h : l[k]? = some x) : ((l.flatMap Fu.ts).drop (k * 15)).take 15 = x.ts := flat_at Fu.ts 15 Fu.ts_len h
def Fu.size : Fu → Nat
  | ⟨f_name, f_params, f_names, f_types, f_out, f_body⟩ => f_name.size + strSize f_params + strSize f_names + Y.sizes f_types + f_out.size + f_body.size + 1
def Fu.sizes (l : List Fu) : Nat := (l.map Fu.size).sum
theorem Fu.size_mem {x : Fu} {l : List Fu} (h : x ∈ l) : x.size ≤ Fu.sizes l := sum_mem' Fu.size h
instance : Inhabited Fu := ⟨⟨⟨#[]⟩, [], [], [], default, default⟩⟩
structure Tr where
  name : ByteArray
  funcs : List Fu
def Tr.ts : Tr → List T
  | ⟨f_name, f_funcs⟩ => [.lit (.string f_name), Fu.row f_funcs]
theorem Tr.ts_len (x : Tr) : x.ts.length = 2 := by simp [Tr.ts]
def Tr.t (x : Tr) : T := .agg x.ts
def Tr.row (l : List Tr) : T := .row l.length 2 (l.flatMap Tr.ts)
theorem Tr.at {l : List Tr} {k : Nat} {x : Tr} (h : l[k]? = some x) : ((l.flatMap Tr.ts).drop (k * 2)).take 2 = x.ts := flat_at Tr.ts 2 Tr.ts_len h
def Tr.size : Tr → Nat
  | ⟨f_name, f_funcs⟩ => f_name.size + Fu.sizes f_funcs + 1
def Tr.sizes (l : List Tr) : Nat := (l.map Tr.size).sum
theorem Tr.size_mem {x : Tr} {l : List Tr} (h : x ∈ l) : x.size ≤ Tr.sizes l := sum_mem' Tr.size h
instance : Inhabited Tr := ⟨⟨⟨#[]⟩, []⟩⟩
structure Im where
  trait : ByteArray
  dat : ByteArray
  funcs : List Fu
def Im.ts : Im → List T
  | ⟨f_trait, f_dat, f_funcs⟩ => [.lit (.string f_trait), .lit (.string f_dat), Fu.row f_funcs]
theorem Im.ts_len (x : Im) : x.ts.length = 3 := by simp [Im.ts]
def Im.t (x : Im) : T := .agg x.ts
def Im.row (l : List Im) : T := .row l.length 3 (l.flatMap Im.ts)
theorem Im.at {l : List Im} {k : Nat} {x : Im} (h : l[k]? = some x) : ((l.flatMap Im.ts).drop (k * 3)).take 3 = x.ts := flat_at Im.ts 3 Im.ts_len h
def Im.size : Im → Nat
  | ⟨f_trait, f_dat, f_funcs⟩ => f_trait.size + f_dat.size + Fu.sizes f_funcs + 1
def Im.sizes (l : List Im) : Nat := (l.map Im.size).sum
theorem Im.size_mem {x : Im} {l : List Im} (h : x ∈ l) : x.size ≤ Im.sizes l := sum_mem' Im.size h
instance : Inhabited Im := ⟨⟨⟨#[]⟩, ⟨#[]⟩, []⟩⟩
structure Ac where
  name : ByteArray
  names : List ByteArray
  types : List Y
  msg : Y
  body : Ex
def Ac.ts : Ac → List T
  | ⟨f_name, f_names, f_types, f_msg, f_body⟩ => [.lit (.string f_name), strRow f_names, Y.row f_types] ++ f_msg.ts ++ f_body.ts
theorem Ac.ts_len (x : Ac) : x.ts.length = 14 := by simp [Ac.ts, Ex.ts_len, Y.ts_len]
def Ac.t (x : Ac) : T := .agg x.ts
def Ac.row (l : List Ac) : T := .row l.length 14 (l.flatMap Ac.ts)
theorem Ac.at {l : List Ac} {k : Nat} {x : Ac} (h : l[k]? = some x) : ((l.flatMap Ac.ts).drop (k * 14)).take 14 = x.ts := flat_at Ac.ts 14 Ac.ts_len h
def Ac.size : Ac → Nat
  | ⟨f_name, f_names, f_types, f_msg, f_body⟩ => f_name.size + strSize f_names + Y.sizes f_types + f_msg.size + f_body.size + 1
def Ac.sizes (l : List Ac) : Nat := (l.map Ac.size).sum
theorem Ac.size_mem {x : Ac} {l : List Ac} (h : x ∈ l) : x.size ≤ Ac.sizes l := sum_mem' Ac.size h
instance : Inhabited Ac := ⟨⟨⟨#[]⟩, [], [], default, default⟩⟩
structure Pr where
  name : ByteArray
  version : Int
  uses : List Us
  datas : List Da
  traits : List Tr
  impls : List Im
  funcs : List Fu
  actors : List Ac
def Pr.ts : Pr → List T
  | ⟨f_name, f_version, f_uses, f_datas, f_traits, f_impls, f_funcs, f_actors⟩ => [.lit (.string f_name), .lit (.int .i64 f_version), Us.row f_uses, Da.row f_datas, Tr.row f_traits, Im.row f_impls, Fu.row f_funcs, Ac.row f_actors]
theorem Pr.ts_len (x : Pr) : x.ts.length = 8 := by simp [Pr.ts]
def Pr.t (x : Pr) : T := .agg x.ts
def Pr.row (l : List Pr) : T := .row l.length 8 (l.flatMap Pr.ts)
theorem Pr.at {l : List Pr} {k : Nat} {x : Pr} (h : l[k]? = some x) : ((l.flatMap Pr.ts).drop (k * 8)).take 8 = x.ts := flat_at Pr.ts 8 Pr.ts_len h
def Pr.size : Pr → Nat
  | ⟨f_name, _, f_uses, f_datas, f_traits, f_impls, f_funcs, f_actors⟩ => f_name.size + Us.sizes f_uses + Da.sizes f_datas + Tr.sizes f_traits + Im.sizes f_impls + Fu.sizes f_funcs + Ac.sizes f_actors + 1
def Pr.sizes (l : List Pr) : Nat := (l.map Pr.size).sum
theorem Pr.size_mem {x : Pr} {l : List Pr} (h : x ∈ l) : x.size ≤ Pr.sizes l := sum_mem' Pr.size h
instance : Inhabited Pr := ⟨⟨⟨#[]⟩, 0, [], [], [], [], [], []⟩⟩
end Go.Proofs.YtllgibfmddihgaaDoor
namespace Go.Proofs.YtllgibfmddihgaaDoor
open Go.RowKit
def inI (n : Int) : Prop := -9223372036854775808 ≤ n ∧ n ≤ 9223372036854775807
instance (n : Int) : Decidable (inI n) := by unfold inI; infer_instance
/-- a number, heavy where it is out of range -/
def far (n : Int) : Nat := if inI n then 1 else 1099511627776
theorem far_in {n : Int} (h : far n ≤ 1048576) : inI n := by
  unfold far at h
  split at h
  · assumption
  · omega
theorem far_pos (n : Int) : 1 ≤ far n := by unfold far; split <;> omega
mutual
def Y.mass : Y → Nat
  | .mk k n l => far k + (n.size + 1) + (Y.masses l + 1)
def Y.masses : List Y → Nat
  | [] => 0
  | v :: r => v.mass + Y.masses r
end
mutual
def Y.ok : Y → Prop
  | .mk k _ l => inI k ∧ Y.oks l
def Y.oks : List Y → Prop
  | [] => True
  | v :: r => v.ok ∧ Y.oks r
end
theorem Y.masses_sum : ∀ l : List Y, Y.masses l = (l.map Y.mass).sum
  | [] => rfl
  | v :: l => by simp [Y.masses, Y.masses_sum l]
theorem V.size_pos : ∀ v : V, 1 ≤ v.size
  | .mk _ _ _ _ => by simp only [V.size]; omega
mutual
def V.mass : V → Nat
  | .mk k n t l => far k + far n + (t.size + 1) + (V.masses l + 1)
def V.masses : List V → Nat
  | [] => 0
  | v :: r => v.mass + V.masses r
end
mutual
def V.ok : V → Prop
  | .mk k n _ l => inI k ∧ inI n ∧ V.oks l
def V.oks : List V → Prop
  | [] => True
  | v :: r => v.ok ∧ V.oks r
end
theorem V.masses_sum : ∀ l : List V, V.masses l = (l.map V.mass).sum
  | [] => rfl
  | v :: l => by simp [V.masses, V.masses_sum l]
mutual
def Ex.mass : Ex → Nat
  | .mk k n t ns ys l rs a => far k + far n + (t.size + 1) + (strSize ns + 1) + (Y.masses ys + 1) + (Ex.masses l + 1) + (Ar.masses rs + 1) + far a
def Ex.masses : List Ex → Nat
  | [] => 0
  | v :: r => v.mass + Ex.masses r
def Ar.mass : Ar → Nat
  | .mk p b => p.mass + b.mass
def Ar.masses : List Ar → Nat
  | [] => 0
  | v :: r => v.mass + Ar.masses r
end
mutual
def Ex.ok : Ex → Prop
  | .mk k n _ _ ys l rs a => inI k ∧ inI n ∧ Y.oks ys ∧ Ex.oks l ∧ Ar.oks rs ∧ inI a
def Ex.oks : List Ex → Prop
  | [] => True
  | v :: r => v.ok ∧ Ex.oks r
def Ar.ok : Ar → Prop
  | .mk p b => p.ok ∧ b.ok
def Ar.oks : List Ar → Prop
  | [] => True
  | v :: r => v.ok ∧ Ar.oks r
end
theorem Ex.masses_sum : ∀ l : List Ex, Ex.masses l = (l.map Ex.mass).sum
  | [] => rfl
  | v :: l => by simp [Ex.masses, Ex.masses_sum l]
theorem Ar.masses_sum : ∀ l : List Ar, Ar.masses l = (l.map Ar.mass).sum
  | [] => rfl
  | v :: l => by simp [Ar.masses, Ar.masses_sum l]
theorem Ex.ind {P : Ex → Prop} (h : ∀ k n t ns ys l rs a, (∀ v ∈ l, P v) → (∀ r ∈ rs, ∀ p b, r = Ar.mk p b → P b) → P (.mk k n t ns ys l rs a)) : ∀ v, P v := by
  have : ∀ (N : Nat) (v : Ex), v.size ≤ N → P v := by
    intro N
    induction N with
    | zero => intro v hv; have := v.size_pos; omega
    | succ N ih =>
      intro v hv
      cases v with
      | mk k n t ns ys l rs a =>
        simp only [Ex.size] at hv
        refine h k n t ns ys l rs a (fun x hx => ih x ?_) (fun r hr p b e => ih b ?_)
        · have := Ex.size_mem hx
          omega
        · have := Ar.size_mem hr
          subst e
          have hp := p.size_pos
          simp only [Ar.size] at this
          omega
  exact fun v => this v.size v (Nat.le_refl _)
def Us.mass (x : Us) : Nat := (x.name.size + 1) + far x.low + far x.high
def Us.ok (x : Us) : Prop := inI x.low ∧ inI x.high
def Mk.mass (x : Mk) : Nat := (x.name.size + 1) + ((x.args.map Y.mass).sum + 1)
def Mk.ok (x : Mk) : Prop := (∀ a ∈ x.args, a.ok)
def Da.mass (x : Da) : Nat := (x.name.size + 1) + (strSize x.params + 1) + ((x.makes.map Mk.mass).sum + 1)
def Da.ok (x : Da) : Prop := (∀ a ∈ x.makes, a.ok)
def Fu.mass (x : Fu) : Nat := (x.name.size + 1) + (strSize x.params + 1) + (strSize x.names + 1) + ((x.types.map Y.mass).sum + 1) + x.out.mass + x.body.mass
def Fu.ok (x : Fu) : Prop := (∀ a ∈ x.types, a.ok) ∧ x.out.ok ∧ x.body.ok
def Tr.mass (x : Tr) : Nat := (x.name.size + 1) + ((x.funcs.map Fu.mass).sum + 1)
def Tr.ok (x : Tr) : Prop := (∀ a ∈ x.funcs, a.ok)
def Im.mass (x : Im) : Nat := (x.trait.size + 1) + (x.dat.size + 1) + ((x.funcs.map Fu.mass).sum + 1)
def Im.ok (x : Im) : Prop := (∀ a ∈ x.funcs, a.ok)
def Ac.mass (x : Ac) : Nat := (x.name.size + 1) + (strSize x.names + 1) + ((x.types.map Y.mass).sum + 1) + x.msg.mass + x.body.mass
def Ac.ok (x : Ac) : Prop := (∀ a ∈ x.types, a.ok) ∧ x.msg.ok ∧ x.body.ok
def Pr.mass (x : Pr) : Nat := (x.name.size + 1) + far x.version + ((x.uses.map Us.mass).sum + 1) + ((x.datas.map Da.mass).sum + 1) + ((x.traits.map Tr.mass).sum + 1) + ((x.impls.map Im.mass).sum + 1) + ((x.funcs.map Fu.mass).sum + 1) + ((x.actors.map Ac.mass).sum + 1)
def Pr.ok (x : Pr) : Prop := inI x.version ∧ (∀ a ∈ x.uses, a.ok) ∧ (∀ a ∈ x.datas, a.ok) ∧ (∀ a ∈ x.traits, a.ok) ∧ (∀ a ∈ x.impls, a.ok) ∧ (∀ a ∈ x.funcs, a.ok) ∧ (∀ a ∈ x.actors, a.ok)
end Go.Proofs.YtllgibfmddihgaaDoor
namespace Go.Proofs.YtllgibfmddihgaaDoor
open Go.RowKit
theorem gPow : Tryd.prog.globalNamed "internal/strconv.uint64pow10" = some 0 := by kernel_rfl
theorem itoa_af (n : Int) (h : inI n) : AF Tryd.prog 46 [.lit (.int .i64 n)] (· = .lit (.string (bs (Lib.itoa n)))) := by
  refine ⟨⟨_, Tryd.func46, by kernel_rfl, by kernel_rfl⟩, fun M w vs hG hM hvs => ?_⟩
  simp only [RTs, RT] at hvs
  obtain ⟨x, r, rfl, rfl, rfl⟩ := hvs
  obtain ⟨t, fr, e⟩ := hG _ (List.mem_singleton.2 rfl)
  have htab : Lib.TabIs Tryd.prog w "internal/strconv.uint64pow10" .u64 Lib.pow10Tab := by
    unfold Lib.TabIs World.var?
    rw [gPow]
    simp only [Option.bind_some]
    rw [e]
  refine (itoa_calls n h.1 h.2 w htab).mono fun e w' ⟨he, k, os, hw⟩ => ?_
  subst he
  have hb : Below w.heap.size w w' := by
    subst hw
    refine ⟨rfl, rfl, rfl, ?_, fun b hb => ?_⟩
    · show w.heap.size ≤ (w.heap ++ os).size
      simp
    · show (w.heap ++ os)[b]? = w.heap[b]?
      rw [Array.getElem?_append_left hb]
  exact ⟨_, _, M, rfl, rfl, Ext.refl _ _, hM.below hb, by simp only [RT]; rfl, hb⟩
end Go.Proofs.YtllgibfmddihgaaDoor
namespace Go.Proofs.YtllgibfmddihgaaDoor
open Go.RowKit
def numB (x : Int) : List UInt8 := Lib.itoa x ++ [44]
def textB (s : ByteArray) : List UInt8 := numB (s.size : Nat) ++ s.data.toList
def numsB (l : List Int) : List UInt8 := l.flatMap numB
def textsB (l : List ByteArray) : List UInt8 := l.flatMap textB
structure Code {α : Type} (enc : α → List UInt8) (eq : α → α → Bool) (a : α) : Prop where
  to : ∀ b, eq a b = true → enc a = enc b
  of : ∀ b r s, enc a ++ r = enc b ++ s → eq a b = true ∧ r = s
def eqStr (x y : ByteArray) : Bool := decide (x = y)
mutual
def Y.mark : Y → List UInt8
  | .mk k n l => numB k ++ (numB (l.length : Nat) ++ (textB n ++ Y.marks l))
def Y.marks : List Y → List UInt8
  | [] => []
  | v :: r => v.mark ++ Y.marks r
end
mutual
def Y.same : Y → Y → Bool
  | .mk k n l, .mk k' n' l' => decide (k = k') && (decide (n = n') && Y.sames l l')
def Y.sames : List Y → List Y → Bool
  | [], [] => true
  | a :: l, b :: r => a.same b && Y.sames l r
  | [], _ :: _ => false
  | _ :: _, [] => false
end
theorem Y.marks_eq : ∀ l : List Y, Y.marks l = l.flatMap Y.mark
  | [] => rfl
  | v :: l => by rw [Y.marks, Y.marks_eq l]; rfl
mutual
def V.mark : V → List UInt8
  | .mk k n t l => numB k ++ (numB n ++ (numB (l.length : Nat) ++ (textB t ++ V.marks l)))
def V.marks : List V → List UInt8
  | [] => []
  | v :: r => v.mark ++ V.marks r
end
mutual
def V.alike : V → V → Bool
  | .mk k n t l, .mk k' n' t' l' => decide (k = k') && (decide (n = n') && (decide (t = t') && V.alikes l l'))
def V.alikes : List V → List V → Bool
  | [], [] => true
  | a :: l, b :: r => a.alike b && V.alikes l r
  | [], _ :: _ => false
  | _ :: _, [] => false
end
theorem V.marks_eq : ∀ l : List V, V.marks l = l.flatMap V.mark
  | [] => rfl
  | v :: l => by rw [V.marks, V.marks_eq l]; rfl
mutual
def Ex.mark : Ex → List UInt8
  | .mk k n t ns ys l rs _ => numB k ++ (numB n ++ (numB (ns.length : Nat) ++ (numB (ys.length : Nat) ++ (numB (l.length : Nat) ++ (numB (rs.length : Nat) ++ (textB t ++ (textsB ns ++ (ys.flatMap Y.mark ++ (Ex.marks l ++ Ar.marks rs)))))))))
def Ex.marks : List Ex → List UInt8
  | [] => []
  | v :: r => v.mark ++ Ex.marks r
def Ar.mark : Ar → List UInt8
  | .mk p b => p.mark ++ b.mark
def Ar.marks : List Ar → List UInt8
  | [] => []
  | v :: r => v.mark ++ Ar.marks r
end
mutual
def Ex.same : Ex → Ex → Bool
  | .mk k n t ns ys l rs _, .mk k' n' t' ns' ys' l' rs' _ => decide (k = k') && (decide (n = n') && (decide (t = t') && (eqBy eqStr ns ns' && (eqBy Y.same ys ys' && (Ex.sames l l' && Ar.sames rs rs')))))
def Ex.sames : List Ex → List Ex → Bool
  | [], [] => true
  | a :: l, b :: r => a.same b && Ex.sames l r
  | [], _ :: _ => false
  | _ :: _, [] => false
def Ar.same : Ar → Ar → Bool
  | .mk p b, .mk p' b' => p.alike p' && b.same b'
def Ar.sames : List Ar → List Ar → Bool
  | [], [] => true
  | a :: l, b :: r => a.same b && Ar.sames l r
  | [], _ :: _ => false
  | _ :: _, [] => false
end
theorem Ex.marks_eq : ∀ l : List Ex, Ex.marks l = l.flatMap Ex.mark
  | [] => rfl
  | v :: l => by rw [Ex.marks, Ex.marks_eq l]; rfl
theorem Ar.marks_eq : ∀ l : List Ar, Ar.marks l = l.flatMap Ar.mark
  | [] => rfl
  | v :: l => by rw [Ar.marks, Ar.marks_eq l]; rfl
def namesB (l : List ByteArray) : List UInt8 := numB (l.length : Nat) ++ textsB l
def typesB (l : List Y) : List UInt8 := numB (l.length : Nat) ++ l.flatMap Y.mark
def Fu.mark (f : Fu) : List UInt8 := textB f.name ++ (namesB f.params ++ (namesB f.names ++ (typesB f.types ++ (f.out.mark ++ f.body.mark))))
def Fu.same (f g : Fu) : Bool := decide (f.name = g.name) && (eqBy eqStr f.params g.params && (eqBy eqStr f.names g.names && (eqBy Y.same f.types g.types && (f.out.same g.out && f.body.same g.body))))
def funcsB (l : List Fu) : List UInt8 := numB (l.length : Nat) ++ l.flatMap Fu.mark
def Us.mark (u : Us) : List UInt8 := textB u.name ++ (numB u.low ++ numB u.high)
def Us.same (u v : Us) : Bool := decide (u.name = v.name) && (decide (u.low = v.low) && decide (u.high = v.high))
def Mk.mark (m : Mk) : List UInt8 := textB m.name ++ typesB m.args
def Mk.same (m n : Mk) : Bool := decide (m.name = n.name) && eqBy Y.same m.args n.args
def Da.mark (d : Da) : List UInt8 := textB d.name ++ (numB (d.makes.length : Nat) ++ (namesB d.params ++ d.makes.flatMap Mk.mark))
def Da.same (d e : Da) : Bool := decide (d.name = e.name) && (eqBy eqStr d.params e.params && eqBy Mk.same d.makes e.makes)
def Tr.mark (t : Tr) : List UInt8 := textB t.name ++ funcsB t.funcs
def Tr.same (t u : Tr) : Bool := decide (t.name = u.name) && eqBy Fu.same t.funcs u.funcs
def Im.mark (t : Im) : List UInt8 := textB t.trait ++ (textB t.dat ++ funcsB t.funcs)
def Im.same (t u : Im) : Bool := decide (t.trait = u.trait) && (decide (t.dat = u.dat) && eqBy Fu.same t.funcs u.funcs)
def Ac.mark (x : Ac) : List UInt8 := textB x.name ++ (namesB x.names ++ (typesB x.types ++ (x.msg.mark ++ x.body.mark)))
def Ac.same (x y : Ac) : Bool := decide (x.name = y.name) && (eqBy eqStr x.names y.names && (eqBy Y.same x.types y.types && (x.msg.same y.msg && x.body.same y.body)))
def Pr.mark (p : Pr) : List UInt8 :=
  textB p.name ++ (numB p.version ++ (numB (p.uses.length : Nat) ++ (numB (p.datas.length : Nat) ++ (numB (p.traits.length : Nat) ++ (numB (p.impls.length : Nat) ++ (numB (p.actors.length : Nat) ++
    (p.uses.flatMap Us.mark ++ (p.datas.flatMap Da.mark ++ (p.traits.flatMap Tr.mark ++ (p.impls.flatMap Im.mark ++ (funcsB p.funcs ++ p.actors.flatMap Ac.mark)))))))))))
def Pr.same (p q : Pr) : Bool :=
  decide (p.name = q.name) && (decide (p.version = q.version) && (eqBy Us.same p.uses q.uses && (eqBy Da.same p.datas q.datas && (eqBy Tr.same p.traits q.traits && (eqBy Im.same p.impls q.impls && (eqBy Fu.same p.funcs q.funcs && eqBy Ac.same p.actors q.actors))))))
theorem Code.self {α : Type} {enc : α → List UInt8} {eq : α → α → Bool} {a : α} (h : Code enc eq a) : eq a a = true := (h.of a [] [] rfl).1
end Go.Proofs.YtllgibfmddihgaaDoor
namespace Go.Proofs.YtllgibfmddihgaaDoor
open Go.RowKit
theorem take_flat_le {α : Type} (f : α → List UInt8) (l : List α) (k : Nat) : ((l.take k).flatMap f).length ≤ (l.flatMap f).length := by
  have := congrArg (fun r => (List.flatMap f r).length) (List.take_append_drop k l)
  simp only [List.flatMap_append, List.length_append] at this
  omega
theorem mem_flat_le {α : Type} (f : α → List UInt8) {l : List α} {a : α} (h : a ∈ l) : (f a).length ≤ (l.flatMap f).length := by
  obtain ⟨s, t, rfl⟩ := List.append_of_mem h
  simp only [List.flatMap_append, List.flatMap_cons, List.length_append]
  omega
theorem bs_take0 {α : Type} (f : α → List UInt8) (l : List α) (p : List UInt8) : bs (p ++ (l.take 0).flatMap f) = bs p := by simp
set_option maxRecDepth 100000 in
set_option maxHeartbeats 1000000 in
theorem nums_af (l : List Int) (hi : ∀ n ∈ l, inI n) (hb : (numsB l).length ≤ 1099511627776) : AF Tryd.prog 96 [intRow l] (· = .lit (.string (bs (numsB l)))) := by
  refine af_enter tok Tryd.func96 Tryd.ntmps96 Tryd.results96 rfl (by kernel_rfl) rfl rfl fun F hX => ?_
  repeat (first | refine gG ?_ | refine zN1 (fun hlen => ?_) | refine zN2 (fun hlen => ?_))
  refine x_loop [3, 5, 8, 9, 10, 11, 12, 13, 14, 15, 16, 17] (fun k : Nat => [(8, .c (.lit (.int .i64 (k : Nat)))), (3, .c (.lit (.string (bs ((l.take k).flatMap numB)))))]) (fun _ => []) (fun k => k ≤ l.length) (fun k => l.length - k) 0 (Nat.zero_le _) ⟨rfl, rfl, trivial⟩ rfl ?_
  intro k hk
  repeat (first | refine gG ?_ | refine zN1 (fun hlen => ?_) | refine zN2 (fun hlen => ?_))
  refine x_cond rfl (fun h => ?_) (fun h => ?_)
  · have hk' : k < l.length := by simpa using h
    obtain ⟨a, ha⟩ := nth hk'
    have hc := itoa_af a (hi a (List.mem_of_getElem? ha))
    have hsn := flat_snoc' numB ha
    have h1 := take_flat_le numB l k
    have h2 := mem_flat_le numB (List.mem_of_getElem? ha)
    have e2 : numB a = Lib.itoa a ++ [44] := rfl
    have h3 : (numB a).length = (Lib.itoa a).length + 1 := by rw [e2, List.length_append]; rfl
    unfold numsB at hb
    clear h
    repeat (first | refine gG ?_ | refine zN1 (fun hlen => ?_) | refine zN2 (fun hlen => ?_))
    refine zIx k hk' ?_
    repeat (first | refine gG ?_ | refine zN1 (fun hlen => ?_) | refine zN2 (fun hlen => ?_))
    refine zEl1 (v := .lit (.int .i64 a)) (int_at ha) ?_
    repeat (first | refine gG ?_ | refine zN1 (fun hlen => ?_) | refine zN2 (fun hlen => ?_))
    refine zCall (hc) ?_
    rintro _ rfl
    repeat (first | refine gG ?_ | refine zN1 (fun hlen => ?_) | refine zN2 (fun hlen => ?_))
    refine zCatb (Lib.itoa a) [44] (by simp only [List.length_cons, List.length_nil]; omega) ?_
    repeat (first | refine gG ?_ | refine zN1 (fun hlen => ?_) | refine zN2 (fun hlen => ?_))
    refine zCatb ((l.take k).flatMap numB) (numB a) (by omega) ?_
    repeat (first | refine gG ?_ | refine zN1 (fun hlen => ?_) | refine zN2 (fun hlen => ?_))
    exact ⟨k + 1, hk', by omega, x_wkd 0 ⟨rfl, by rw [hsn]; rfl, trivial⟩ rfl (by repeat (first | exact ag_refl | refine ag_upd rfl ?_ | refine ag_at rfl rfl ?_))⟩
  · have hk' : k = l.length := by have : ¬ k < l.length := by simpa using h
                                  omega
    subst hk'
    repeat (first | refine gG ?_ | refine zN1 (fun hlen => ?_) | refine zN2 (fun hlen => ?_))
    first | refine zR ?_ | refine zQ ?_
    rw [List.take_length]
    rfl
theorem num1_af (n : Int) (h : inI n) (hb : (numB n).length ≤ 1099511627776) : AF Tryd.prog 96 [intRow [n]] (· = .lit (.string (bs (numB n)))) := by
  have := nums_af [n] (by simpa using h) (by simpa [numsB] using hb)
  simpa [numsB] using this
theorem inI_nat {n : Nat} (h : n ≤ 9223372036854775807) : inI (n : Int) := by unfold inI; omega
set_option maxRecDepth 100000 in
set_option maxHeartbeats 1000000 in
theorem texts_af (l : List ByteArray) (hb : (textsB l).length ≤ 1099511627776) : AF Tryd.prog 95 [strRow l] (· = .lit (.string (bs (textsB l)))) := by
  refine af_enter tok Tryd.func95 Tryd.ntmps95 Tryd.results95 rfl (by kernel_rfl) rfl rfl fun F hX => ?_
  repeat (first | refine gG ?_ | refine zN1 (fun hlen => ?_) | refine zN2 (fun hlen => ?_))
  refine x_loop [3, 5, 8, 9, 10, 11, 12, 13, 14, 15, 16, 17, 18, 19, 20] (fun k : Nat => [(8, .c (.lit (.int .i64 (k : Nat)))), (3, .c (.lit (.string (bs ((l.take k).flatMap textB)))))]) (fun _ => []) (fun k => k ≤ l.length) (fun k => l.length - k) 0 (Nat.zero_le _) ⟨rfl, rfl, trivial⟩ rfl ?_
  intro k hk
  repeat (first | refine gG ?_ | refine zN1 (fun hlen => ?_) | refine zN2 (fun hlen => ?_))
  refine x_cond rfl (fun h => ?_) (fun h => ?_)
  · have hk' : k < l.length := by simpa using h
    obtain ⟨a, ha⟩ := nth hk'
    have hsn := flat_snoc' textB ha
    have h1 := take_flat_le textB l k
    have h2 := mem_flat_le textB (List.mem_of_getElem? ha)
    have e2 : textB a = numB (a.size : Nat) ++ a.data.toList := rfl
    have h3 : (textB a).length = (numB (a.size : Nat)).length + a.size := by rw [e2, List.length_append]; rfl
    have hst : (l.flatMap strTs)[k * 1]? = some (.lit (.string a)) := by rw [Nat.mul_one]; exact str_at ha
    unfold textsB at hb
    have hc := num1_af (a.size : Nat) (inI_nat (by omega)) (by omega)
    clear h
    repeat (first | refine gG ?_ | refine zN1 (fun hlen => ?_) | refine zN2 (fun hlen => ?_))
    refine zIx k hk' ?_
    repeat (first | refine gG ?_ | refine zN1 (fun hlen => ?_) | refine zN2 (fun hlen => ?_))
    refine zEl1 (v := .lit (.string a)) hst ?_
    repeat (first | refine gG ?_ | refine zN1 (fun hlen => ?_) | refine zN2 (fun hlen => ?_))
    refine zCall (hc) ?_
    rintro _ rfl
    repeat (first | refine gG ?_ | refine zN1 (fun hlen => ?_) | refine zN2 (fun hlen => ?_))
    refine zCatb (numB (a.size : Nat)) a.data.toList (by have : a.data.toList.length = a.size := rfl; omega) ?_
    repeat (first | refine gG ?_ | refine zN1 (fun hlen => ?_) | refine zN2 (fun hlen => ?_))
    refine zCatb ((l.take k).flatMap textB) (textB a) (by omega) ?_
    repeat (first | refine gG ?_ | refine zN1 (fun hlen => ?_) | refine zN2 (fun hlen => ?_))
    exact ⟨k + 1, hk', by omega, x_wkd 0 ⟨rfl, by rw [hsn]; rfl, trivial⟩ rfl (by repeat (first | exact ag_refl | refine ag_upd rfl ?_ | refine ag_at rfl rfl ?_))⟩
  · have hk' : k = l.length := by have : ¬ k < l.length := by simpa using h
                                  omega
    subst hk'
    repeat (first | refine gG ?_ | refine zN1 (fun hlen => ?_) | refine zN2 (fun hlen => ?_))
    first | refine zR ?_ | refine zQ ?_
    rw [List.take_length]
    rfl
end Go.Proofs.YtllgibfmddihgaaDoor
namespace Go.Proofs.YtllgibfmddihgaaDoor
open Go.RowKit
theorem len_flat_le {α : Type} (f : α → List UInt8) (h : ∀ a, 1 ≤ (f a).length) : ∀ l : List α, l.length ≤ (l.flatMap f).length
  | [] => by simp
  | a :: l => by
    have := h a
    have := len_flat_le f h l
    simp only [List.flatMap_cons, List.length_append, List.length_cons]
    omega
theorem numB_pos (n : Int) : 1 ≤ (numB n).length := by simp [numB]
theorem textB_pos (s : ByteArray) : 1 ≤ (textB s).length := by have := numB_pos (s.size : Nat); simp only [textB, List.length_append]; omega
theorem Y.mark_pos : ∀ y : Y, 1 ≤ y.mark.length
  | .mk k n l => by have := numB_pos k; simp only [Y.mark, List.length_append]; omega
theorem V.mark_pos : ∀ y : V, 1 ≤ y.mark.length
  | .mk k n t l => by have := numB_pos k; simp only [V.mark, List.length_append]; omega
theorem Ex.mark_pos : ∀ y : Ex, 1 ≤ y.mark.length
  | .mk k n t ns ys l rs a => by have := numB_pos k; simp only [Ex.mark, List.length_append]; omega
theorem Ar.mark_pos : ∀ y : Ar, 1 ≤ y.mark.length
  | .mk p b => by have := p.mark_pos; simp only [Ar.mark, List.length_append]; omega
end Go.Proofs.YtllgibfmddihgaaDoor
namespace Go.Proofs.YtllgibfmddihgaaDoor
open Go.RowKit
theorem Us.mark_pos (x : Us) : 1 ≤ x.mark.length := by have := textB_pos x.name; simp only [Us.mark, List.length_append]; omega
theorem Mk.mark_pos (x : Mk) : 1 ≤ x.mark.length := by have := textB_pos x.name; simp only [Mk.mark, List.length_append]; omega
theorem Da.mark_pos (x : Da) : 1 ≤ x.mark.length := by have := textB_pos x.name; simp only [Da.mark, List.length_append]; omega
theorem Tr.mark_pos (x : Tr) : 1 ≤ x.mark.length := by have := textB_pos x.name; simp only [Tr.mark, List.length_append]; omega
theorem Im.mark_pos (x : Im) : 1 ≤ x.mark.length := by have := textB_pos x.trait; simp only [Im.mark, List.length_append]; omega
theorem Ac.mark_pos (x : Ac) : 1 ≤ x.mark.length := by have := textB_pos x.name; simp only [Ac.mark, List.length_append]; omega
theorem Fu.mark_pos (x : Fu) : 1 ≤ x.mark.length := by have := textB_pos x.name; simp only [Fu.mark, List.length_append]; omega
end Go.Proofs.YtllgibfmddihgaaDoor
namespace Go.Proofs.YtllgibfmddihgaaDoor
open Go.RowKit
def Ar.pat : Ar → V
  | .mk p _ => p
def Ar.body : Ar → Ex
  | .mk _ b => b
def Ex.arms : Ex → List Ar
  | .mk _ _ _ _ _ _ rs _ => rs
def Ex.args : Ex → List Ex
  | .mk _ _ _ _ _ l _ _ => l
def Ex.nexts (e : Ex) : List Ex := e.args ++ e.arms.map Ar.body
def Im.bodies (i : Im) : List Ex := i.funcs.map Fu.body
def Pr.funs (p : Pr) : List Fu := p.impls.flatMap Im.funcs ++ p.funcs
def Pr.bodies (p : Pr) : List Ex := p.funs.map Fu.body ++ p.actors.map Ac.body
theorem grown0 {α : Type} (acc : List Ex) (f : α → Ex) (l : List α) : acc ++ (l.take 0).map f = acc := by simp
theorem grown_le {α : Type} (acc : List Ex) (f : α → Ex) (l : List α) (k : Nat) : (acc ++ (l.take k).map f).length ≤ acc.length + l.length := by simp only [List.length_append, List.length_map, List.length_take]; omega
theorem grown_len {α : Type} (acc : List Ex) (f : α → Ex) {l : List α} {k : Nat} {a : α} (h : l[k]? = some a) : (acc ++ (l.take (k + 1)).map f).length = (acc ++ (l.take k).map f).length + 1 := by
  obtain ⟨h1, rfl⟩ := List.getElem?_eq_some_iff.1 h
  simp only [List.length_append, List.length_map, List.length_take]; omega
theorem grown_all {α : Type} (acc : List Ex) (f : α → Ex) {l : List α} {k : Nat} {a : α} (h : l[k]? = some a) : Ex.all (acc ++ (l.take (k + 1)).map f) = Ex.all (acc ++ (l.take k).map f) ++ (f a).ts := by
  obtain ⟨h1, rfl⟩ := List.getElem?_eq_some_iff.1 h
  rw [List.take_succ_eq_append_getElem h1, List.map_append, ← List.append_assoc, Ex.all_app]
  simp [Ex.all]
theorem flatl_le {α β : Type} (f : α → List β) (l : List α) (k : Nat) : ((l.take k).flatMap f).length ≤ (l.flatMap f).length := by
  have := congrArg (fun r => (List.flatMap f r).length) (List.take_append_drop k l)
  simp only [List.flatMap_append, List.length_append] at this
  omega
set_option maxRecDepth 100000 in
set_option maxHeartbeats 4000000 in
theorem funsOf_af (p : Pr) (hp : p.funs.length ≤ 1048576) : AF Tryd.prog 79 [p.t] (· = Fu.row p.funs) := by
  obtain ⟨nm, vr, us, ds, trs, ims, fus, acs⟩ := p
  simp only [Pr.funs, List.length_append] at hp
  refine af_enter tok Tryd.func79 Tryd.ntmps79 Tryd.results79 rfl (by kernel_rfl) rfl rfl fun F hX => ?_
  repeat (first | refine gG ?_ | refine zN1 (fun hlen => ?_) | refine zN2 (fun hlen => ?_) | refine zAl (fun _ => ?_) | refine zBf ?_ | refine zAp (fun _ => ?_))
  refine x_own 3 66 15 rfl rfl rfl rfl rfl ?_
  refine x_loop [3, 5, 9, 10, 11, 12, 13, 14, 15, 16, 17] (fun y : Nat × Value => [(9, .c (.lit (.int .i64 (y.1 : Nat)))), (3, .own 0 y.2)]) (fun y => [.row y.2 66 15 ((ims.take y.1).flatMap Im.funcs).length (((ims.take y.1).flatMap Im.funcs).flatMap Fu.ts)])
    (fun y => y.1 ≤ ims.length) (fun y => ims.length - y.1) (0, .slice none 0 0) (Nat.zero_le _) ⟨rfl, rfl, trivial⟩ rfl ?_
  rintro ⟨k, v⟩ hk
  dsimp only at hk ⊢
  repeat (first | refine gG ?_ | refine zN1 (fun hlen => ?_) | refine zN2 (fun hlen => ?_) | refine zAl (fun _ => ?_) | refine zBx (fun _ => ?_) | refine zAp (fun _ => ?_))
  refine x_cond rfl (fun h => ?_) (fun h => ?_)
  · have hk' : k < ims.length := by simpa using h
    obtain ⟨a, ha⟩ := nth hk'
    have hle := flatl_le Im.funcs ims (k + 1)
    have hsn := flat_snoc' Im.funcs ha
    have hl1 : ((ims.take (k + 1)).flatMap Im.funcs).length = ((ims.take k).flatMap Im.funcs).length + a.funcs.length := by rw [hsn, List.length_append]
    have hc1 : ((ims.take (k + 1)).flatMap Im.funcs).flatMap Fu.ts = ((ims.take k).flatMap Im.funcs).flatMap Fu.ts ++ a.funcs.flatMap Fu.ts := by rw [hsn, List.flatMap_append]
    clear h hsn
    repeat (first | refine gG ?_ | refine zN1 (fun hlen => ?_) | refine zN2 (fun hlen => ?_) | refine zAl (fun _ => ?_) | refine zBx (fun _ => ?_) | refine zAp (fun _ => ?_))
    refine zIx (k) (hk') ?_
    repeat (first | refine gG ?_ | refine zN1 (fun hlen => ?_) | refine zN2 (fun hlen => ?_) | refine zAl (fun _ => ?_) | refine zBx (fun _ => ?_) | refine zAp (fun _ => ?_))
    refine zEl (Im.at ha) (Im.ts_len a) ?_
    obtain ⟨tn, dn, fs⟩ := a
    dsimp only at hl1 hc1
    repeat (first | refine gG ?_ | refine zN1 (fun hlen => ?_) | refine zN2 (fun hlen => ?_) | refine zAl (fun _ => ?_) | refine zBx (fun _ => ?_) | refine zAp (fun _ => ?_))
    exact ⟨(k + 1, _), hk', by simp only; omega, x_wkd 1 ⟨rfl, rfl, trivial⟩ (by simp only [hl1, hc1]; rfl) (by repeat (first | exact ag_refl | refine ag_upd rfl ?_ | refine ag_at rfl rfl ?_))⟩
  · have hk' : k = ims.length := by
      have : ¬ k < ims.length := by simpa using h
      omega
    subst hk'
    clear h
    rw [List.take_length]
    repeat (first | refine gG ?_ | refine zN1 (fun hlen => ?_) | refine zN2 (fun hlen => ?_) | refine zAl (fun _ => ?_) | refine zBx (fun _ => ?_) | refine zAp (fun _ => ?_))
    first | refine zR ?_ | refine zQ ?_
    simp only [outT, Fu.row, Pr.funs, List.length_append, List.flatMap_append]
set_option maxRecDepth 100000 in
set_option maxHeartbeats 4000000 in
theorem bodiesOf_af (p : Pr) (hp : p.bodies.length ≤ 1048576) : AF Tryd.prog 11 [p.t] (· = Ex.row p.bodies) := by
  have hc := funsOf_af p (by simp only [Pr.bodies, List.length_append, List.length_map] at hp; omega)
  have e0 : p.bodies = ([] ++ p.funs.map Fu.body) ++ p.actors.map Ac.body := rfl
  have htl : p.funs.length + p.actors.length ≤ 1048576 := by simp only [Pr.bodies, List.length_append, List.length_map] at hp; omega
  generalize p.bodies = bl at *
  generalize p.funs = fl at *
  obtain ⟨nm, vr, us, ds, trs, ims, fus, acs⟩ := p
  dsimp only at e0 htl
  refine af_enter tok Tryd.func11 Tryd.ntmps11 Tryd.results11 rfl (by kernel_rfl) rfl rfl fun F hX => ?_
  repeat (first | refine gG ?_ | refine zN1 (fun hlen => ?_) | refine zN2 (fun hlen => ?_) | refine zAl (fun _ => ?_) | refine zBf ?_ | refine zAp (fun _ => ?_))
  refine zCall (hc) ?_
  rintro _ rfl
  repeat (first | refine gG ?_ | refine zN1 (fun hlen => ?_) | refine zN2 (fun hlen => ?_) | refine zAl (fun _ => ?_) | refine zBx (fun _ => ?_) | refine zAp (fun _ => ?_))
  refine x_own 3 40 8 rfl rfl rfl rfl rfl ?_
  refine x_loop [3, 5, 11, 12, 13, 14, 15, 16, 17, 18, 19, 20] (fun y : Nat × Value => [(11, .c (.lit (.int .i64 (y.1 : Nat)))), (3, .own 0 y.2)]) (fun y => [.row y.2 40 8 (([] : List Ex) ++ (fl.take y.1).map Fu.body).length (Ex.all (([] : List Ex) ++ (fl.take y.1).map Fu.body))])
    (fun y => y.1 ≤ fl.length) (fun y => fl.length - y.1) (0, .slice none 0 0) (Nat.zero_le _) ⟨rfl, rfl, trivial⟩ (by first | (rw [grown0]; done) | (rw [grown0]; rfl)) ?_
  rintro ⟨j, u⟩ hj
  dsimp only at hj ⊢
  repeat (first | refine gG ?_ | refine zN1 (fun hlen => ?_) | refine zN2 (fun hlen => ?_) | refine zAl (fun _ => ?_) | refine zBx (fun _ => ?_) | refine zAp (fun _ => ?_))
  refine x_cond rfl (fun h => ?_) (fun h => ?_)
  · have hj' : j < fl.length := by simpa using h
    obtain ⟨b, hb⟩ := nth hj'
    have hle := grown_le ([] : List Ex) Fu.body fl (j + 1)
    have hl1 := grown_len ([] : List Ex) Fu.body hb
    have hc1 := grown_all ([] : List Ex) Fu.body hb
    have htot := (by simp; omega : ([] : List Ex).length + fl.length ≤ 1048576)
    clear h
    repeat (first | refine gG ?_ | refine zN1 (fun hlen => ?_) | refine zN2 (fun hlen => ?_) | refine zAl (fun _ => ?_) | refine zBx (fun _ => ?_) | refine zAp (fun _ => ?_))
    refine zIx (j) (hj') ?_
    repeat (first | refine gG ?_ | refine zN1 (fun hlen => ?_) | refine zN2 (fun hlen => ?_) | refine zAl (fun _ => ?_) | refine zBx (fun _ => ?_) | refine zAp (fun _ => ?_))
    refine zEl (Fu.at hb) (Fu.ts_len b) ?_
    obtain ⟨fn, fpa, fna, fty, ⟨ko, no, lo⟩, ⟨kb, nb, tb, nsb, ysb, lb, rsb, pb⟩⟩ := b
    repeat (first | refine gG ?_ | refine zN1 (fun hlen => ?_) | refine zN2 (fun hlen => ?_) | refine zAl (fun _ => ?_) | refine zBx (fun _ => ?_) | refine zAp (fun _ => ?_))
    exact ⟨(j + 1, _), hj', by simp only; omega, x_wkd 1 ⟨rfl, rfl, trivial⟩ (by simp only [hl1, hc1]; rfl) (by repeat (first | exact ag_refl | refine ag_upd rfl ?_ | refine ag_at rfl rfl ?_))⟩
  · have hj' : j = fl.length := by
      have : ¬ j < fl.length := by simpa using h
      omega
    subst hj'
    clear h
    rw [List.take_length]
    repeat (first | refine gG ?_ | refine zN1 (fun hlen => ?_) | refine zN2 (fun hlen => ?_) | refine zAl (fun _ => ?_) | refine zBx (fun _ => ?_) | refine zAp (fun _ => ?_))
    refine x_loop [3, 7, 24, 25, 26, 27, 28, 29, 30, 31, 32, 33] (fun y : Nat × Value => [(24, .c (.lit (.int .i64 (y.1 : Nat)))), (3, .own 0 y.2)]) (fun y => [.row y.2 40 8 ((([] : List Ex) ++ fl.map Fu.body) ++ (acs.take y.1).map Ac.body).length (Ex.all ((([] : List Ex) ++ fl.map Fu.body) ++ (acs.take y.1).map Ac.body))])
      (fun y => y.1 ≤ acs.length) (fun y => acs.length - y.1) (0, _) (Nat.zero_le _) ⟨rfl, rfl, trivial⟩ (by first | (rw [grown0]; done) | (rw [grown0]; rfl)) ?_
    rintro ⟨j, u⟩ hj
    dsimp only at hj ⊢
    repeat (first | refine gG ?_ | refine zN1 (fun hlen => ?_) | refine zN2 (fun hlen => ?_) | refine zAl (fun _ => ?_) | refine zBx (fun _ => ?_) | refine zAp (fun _ => ?_))
    refine x_cond rfl (fun h => ?_) (fun h => ?_)
    · have hj' : j < acs.length := by simpa using h
      obtain ⟨b, hb⟩ := nth hj'
      have hle := grown_le (([] : List Ex) ++ fl.map Fu.body) Ac.body acs (j + 1)
      have hl1 := grown_len (([] : List Ex) ++ fl.map Fu.body) Ac.body hb
      have hc1 := grown_all (([] : List Ex) ++ fl.map Fu.body) Ac.body hb
      have htot := (by simpa using htl : (([] : List Ex) ++ fl.map Fu.body).length + acs.length ≤ 1048576)
      clear h
      repeat (first | refine gG ?_ | refine zN1 (fun hlen => ?_) | refine zN2 (fun hlen => ?_) | refine zAl (fun _ => ?_) | refine zBx (fun _ => ?_) | refine zAp (fun _ => ?_))
      refine zIx (j) (hj') ?_
      repeat (first | refine gG ?_ | refine zN1 (fun hlen => ?_) | refine zN2 (fun hlen => ?_) | refine zAl (fun _ => ?_) | refine zBx (fun _ => ?_) | refine zAp (fun _ => ?_))
      refine zEl (Ac.at hb) (Ac.ts_len b) ?_
      obtain ⟨fn, fna, fty, ⟨ko, no, lo⟩, ⟨kb, nb, tb, nsb, ysb, lb, rsb, pb⟩⟩ := b
      repeat (first | refine gG ?_ | refine zN1 (fun hlen => ?_) | refine zN2 (fun hlen => ?_) | refine zAl (fun _ => ?_) | refine zBx (fun _ => ?_) | refine zAp (fun _ => ?_))
      exact ⟨(j + 1, _), hj', by simp only; omega, x_wkd 1 ⟨rfl, rfl, trivial⟩ (by simp only [hl1, hc1]; rfl) (by repeat (first | exact ag_refl | refine ag_upd rfl ?_ | refine ag_at rfl rfl ?_))⟩
    · have hj' : j = acs.length := by
        have : ¬ j < acs.length := by simpa using h
        omega
      subst hj'
      clear h
      rw [List.take_length]
      repeat (first | refine gG ?_ | refine zN1 (fun hlen => ?_) | refine zN2 (fun hlen => ?_) | refine zAl (fun _ => ?_) | refine zBx (fun _ => ?_) | refine zAp (fun _ => ?_))
      first | refine zR ?_ | refine zQ ?_
      simp only [outT, Ex.row, e0]
end Go.Proofs.YtllgibfmddihgaaDoor
namespace Go.Proofs.YtllgibfmddihgaaDoor
open Go.RowKit
mutual
def Ex.walk : Ex → List Ex
  | .mk k n t ns ys l rs a => .mk k n t ns ys l rs a :: (Ex.walks l ++ Ar.walks rs)
def Ex.walks : List Ex → List Ex
  | [] => []
  | v :: r => v.walk ++ Ex.walks r
def Ar.walks : List Ar → List Ex
  | [] => []
  | .mk _ b :: r => b.walk ++ Ar.walks r
end
theorem Ex.walks_eq : ∀ l : List Ex, Ex.walks l = l.flatMap Ex.walk
  | [] => rfl
  | v :: l => by rw [Ex.walks, Ex.walks_eq l]; rfl
theorem Ar.walks_eq : ∀ l : List Ar, Ar.walks l = (l.map Ar.body).flatMap Ex.walk
  | [] => rfl
  | .mk p b :: l => by rw [Ar.walks, Ar.walks_eq l]; rfl
theorem Ex.walk_eq (e : Ex) : e.walk = e :: e.nexts.flatMap Ex.walk := by
  obtain ⟨k, n, t, ns, ys, l, rs, a⟩ := e
  rw [Ex.walk, Ex.walks_eq, Ar.walks_eq, Ex.nexts, List.flatMap_append]
  rfl
theorem Ex.len_walk : ∀ l : List Ex, l.length ≤ (l.flatMap Ex.walk).length
  | [] => Nat.le_refl _
  | v :: l => by
    have := Ex.len_walk l
    rw [List.flatMap_cons, List.length_append, Ex.walk_eq, List.length_cons, List.length_cons]
    omega
theorem dropr_len {α : Type} (acc : List Ex) (f : α → Ex) (l : List α) : acc ++ ((l.drop l.length).map f).reverse = acc := by simp
theorem downr_le {α : Type} (acc : List Ex) (f : α → Ex) (l : List α) (k : Nat) : (acc ++ ((l.drop k).map f).reverse).length ≤ acc.length + l.length := by simp
theorem downr {α : Type} (acc : List Ex) (f : α → Ex) {l : List α} {k : Nat} {a : α} (h : l[k]? = some a) : acc ++ ((l.drop k).map f).reverse = (acc ++ ((l.drop (k + 1)).map f).reverse) ++ [f a] := by
  obtain ⟨h1, rfl⟩ := List.getElem?_eq_some_iff.1 h
  rw [List.drop_eq_getElem_cons h1, List.map_cons, List.reverse_cons, List.append_assoc]
theorem downr_len {α : Type} (acc : List Ex) (f : α → Ex) {l : List α} {k : Nat} {a : α} (h : l[k]? = some a) : (acc ++ ((l.drop k).map f).reverse).length = (acc ++ ((l.drop (k + 1)).map f).reverse).length + 1 := by rw [downr acc f h, List.length_append]; rfl
theorem downr_all {α : Type} (acc : List Ex) (f : α → Ex) {l : List α} {k : Nat} {a : α} (h : l[k]? = some a) : Ex.all (acc ++ ((l.drop k).map f).reverse) = Ex.all (acc ++ ((l.drop (k + 1)).map f).reverse) ++ (f a).ts := by
  rw [downr acc f h, Ex.all_app, Ex.all_one]
theorem Ar.at_body {l : List Ar} {k : Nat} {v : Ar} (h : l[k]? = some v) : ((Ar.all l).drop (k * 12 + 4)).take 8 = v.body.ts := by
  have h1 := Ar.at h
  obtain ⟨p, e⟩ := v
  have h2 := congrArg (List.drop 4) h1
  rw [List.drop_take, List.drop_drop] at h2
  rw [h2, Ar.ts]
  simp [V.ts_len, Ar.body]
theorem all_take (S : List Ex) (x : Ex) : (Ex.all (S ++ [x])).take (S.length * 8) = Ex.all S := by
  have h : ∀ l : List Ex, (Ex.all l).length = l.length * 8 := by
    intro l
    induction l with
    | nil => rfl
    | cons a l ih => rw [Ex.all, List.length_append, ih, Ex.ts_len, List.length_cons]; omega
  rw [Ex.all_app, List.take_append_of_le_length (by rw [h]; exact Nat.le_refl _), List.take_of_length_le (by rw [h]; exact Nat.le_refl _)]
theorem all_next {O S W : List Ex} {x : Ex} (h : O ++ (S ++ [x]).reverse.flatMap Ex.walk = W) : (O ++ [x]) ++ ((S ++ (x.arms.map Ar.body).reverse) ++ x.args.reverse).reverse.flatMap Ex.walk = W := by
  rw [← h]
  simp only [List.reverse_append, List.reverse_reverse, List.flatMap_append, List.append_assoc, List.reverse_cons, List.reverse_nil, List.nil_append, List.singleton_append, List.flatMap_cons]
  rw [Ex.walk_eq x, Ex.nexts, List.flatMap_append]
  simp only [List.cons_append, List.append_assoc]
theorem all_fit {O S W : List Ex} (h : O ++ S.reverse.flatMap Ex.walk = W) : O.length + S.length ≤ W.length := by
  have := Ex.len_walk S.reverse
  rw [← h, List.length_append]
  rw [List.length_reverse] at this
  omega
set_option maxRecDepth 100000 in
set_option maxHeartbeats 8000000 in
theorem all_af (e : Ex) (hw : e.walk.length ≤ 1048576) : AF Tryd.prog 52 [e.t] (· = Ex.row e.walk) := by
  obtain ⟨W, hW⟩ : ∃ W, W = e.walk := ⟨_, rfl⟩
  rw [← hW] at hw ⊢
  obtain ⟨k0, n0, t0, ns0, ys0, l0, rs0, p0⟩ := e
  refine af_enter tok Tryd.func52 Tryd.ntmps52 Tryd.results52 rfl (by kernel_rfl) rfl rfl fun F hX => ?_
  repeat (first | refine gX ?_ | refine zN1 (fun hlen => ?_) | refine zN2 (fun hlen => ?_) | refine zAl (fun _ => ?_) | refine zBf ?_ | refine zAp (fun _ => ?_))
  refine zBo (fun v0 => ?_)
  repeat (first | refine gG ?_ | refine zN1 (fun hlen => ?_) | refine zN2 (fun hlen => ?_) | refine zAl (fun _ => ?_) | refine zBx (fun _ => ?_) | refine zAp (fun _ => ?_))
  refine x_own 4 40 8 rfl rfl rfl rfl rfl ?_
  refine x_loop [3, 4, 5, 6, 7, 10, 11, 12, 13, 14, 15, 16, 17, 18, 19, 20, 21, 22, 23, 24, 25, 26, 27, 28, 29, 30, 31, 32, 33, 34, 35, 36, 37, 38, 39, 40, 41, 42, 43, 44, 45, 46, 47, 48, 49, 50, 51, 52, 53, 54, 55, 56, 57, 58, 59, 60] (fun y : List Ex × List Ex × Value × Value => [(3, .own 0 y.2.2.1), (4, .own 1 y.2.2.2)]) (fun y => [.row y.2.2.1 40 8 y.1.length (Ex.all y.1), .row y.2.2.2 40 8 y.2.1.length (Ex.all y.2.1)])
    (fun y => y.2.1 ++ y.1.reverse.flatMap Ex.walk = W) (fun y => W.length - y.2.1.length) ([.mk k0 n0 t0 ns0 ys0 l0 rs0 p0], [], v0, .slice none 0 0) (by simp [hW]) ⟨rfl, rfl, trivial⟩ rfl ?_
  rintro ⟨S0, O, v, u⟩ hI
  dsimp only at hI ⊢
  repeat (first | refine gG ?_ | refine zN1 (fun hlen => ?_) | refine zN2 (fun hlen => ?_) | refine zAl (fun _ => ?_) | refine zBx (fun _ => ?_) | refine zAp (fun _ => ?_))
  refine x_cond rfl (fun h => ?_) (fun h => ?_)
  · obtain ⟨S, x, rfl⟩ : ∃ S x, S0 = S ++ [x] := by
      rcases List.eq_nil_or_concat S0 with rfl | ⟨S, x, rfl⟩
      · simp at h
      · exact ⟨S, x, by simp⟩
    have hx : (S ++ [x])[S.length]? = some x := by simp
    have e1 : (S ++ [x]).length = S.length + 1 := by simp
    have hnew := all_next hI
    have hfit := all_fit hnew
    have htk := all_take S x
    have htl1 : S.length + x.arms.length ≤ 1048576 := by simp only [List.length_append, List.length_reverse, List.length_map] at hfit; omega
    have htl2 : (S ++ (x.arms.map Ar.body).reverse).length + x.args.length ≤ 1048576 := by simp only [List.length_append, List.length_reverse, List.length_map] at hfit ⊢; omega
    have htl3 : O.length + 1 ≤ W.length := by simp only [List.length_append, List.length_cons, List.length_nil] at hfit; omega
    clear h hfit hI
    rw [e1]
    repeat (first | refine gG ?_ | refine zN1 (fun hlen => ?_) | refine zN2 (fun hlen => ?_) | refine zAl (fun _ => ?_) | refine zBx (fun _ => ?_) | refine zAp (fun _ => ?_))
    refine lo_sub rfl rfl (r := ((S.length : Nat) : Int)) (by rw [IntWalk.i64_in _ (by omega)]; omega) ?_
    repeat (first | refine gG ?_ | refine zN1 (fun hlen => ?_) | refine zN2 (fun hlen => ?_) | refine zAl (fun _ => ?_) | refine zBx (fun _ => ?_) | refine zAp (fun _ => ?_))
    refine zIxo S.length (show S.length < S.length + 1 by omega) ?_
    repeat (first | refine gG ?_ | refine zN1 (fun hlen => ?_) | refine zN2 (fun hlen => ?_) | refine zAl (fun _ => ?_) | refine zBx (fun _ => ?_) | refine zAp (fun _ => ?_))
    refine zElo (Ex.at hx) (Ex.ts_len x) ?_
    obtain ⟨kx, nx, tx, nsx, ysx, lx, rsx, px⟩ := x
    dsimp only [Ex.arms, Ex.args] at htl1 htl2 hnew
    repeat (first | refine gG ?_ | refine zN1 (fun hlen => ?_) | refine zN2 (fun hlen => ?_) | refine zAl (fun _ => ?_) | refine zBx (fun _ => ?_) | refine zAp (fun _ => ?_))
    rename_i b
    refine lo_sub rfl rfl (r := ((S.length : Nat) : Int)) (by rw [IntWalk.i64_in _ (by omega)]; omega) ?_
    repeat (first | refine gG ?_ | refine zN1 (fun hlen => ?_) | refine zN2 (fun hlen => ?_) | refine zAl (fun _ => ?_) | refine zBx (fun _ => ?_) | refine zAp (fun _ => ?_))
    refine zQh S.length (show S.length ≤ S.length + 1 by omega) (fun v1 => ?_)
    repeat (first | refine gG ?_ | refine zN1 (fun hlen => ?_) | refine zN2 (fun hlen => ?_) | refine zAl (fun _ => ?_) | refine zBx (fun _ => ?_) | refine zAp (fun _ => ?_))
    rename_i u1
    refine lo_sub rfl rfl (r := ((rsx.length : Nat) : Int) - 1) (by rw [IntWalk.i64_in _ (by omega)]) ?_
    repeat (first | refine gG ?_ | refine zN1 (fun hlen => ?_) | refine zN2 (fun hlen => ?_) | refine zAl (fun _ => ?_) | refine zBx (fun _ => ?_) | refine zAp (fun _ => ?_))
    refine x_loop [3, 6, 32, 33, 34, 35, 36, 37, 38, 39, 40, 41, 42, 43, 44] (fun y : Nat × Value => [(6, .c (.lit (.int .i64 (((y.1 : Nat) : Int) - 1)))), (3, .own 0 y.2)]) (fun y => [.row y.2 40 8 (S ++ ((rsx.drop y.1).map Ar.body).reverse).length (Ex.all (S ++ ((rsx.drop y.1).map Ar.body).reverse)), .row u1 40 8 (O.length + 1) (Ex.all O ++ Ex.ts (.mk kx nx tx nsx ysx lx rsx px)), .box b 40 [.c (.lit (.int .i64 kx)), .c (.lit (.int .i64 nx)), .c (.lit (.string tx)), .c (strRow nsx), .c (Y.row ysx), .c (Ex.row lx), .c (Ar.row rsx), .c (.lit (.int .i64 px))]])
      (fun y => y.1 ≤ rsx.length) (fun y => y.1) (rsx.length, v1) (Nat.le_refl _) ⟨rfl, rfl, trivial⟩ (by first | (simp only [dropr_len, htk]; done) | (simp only [dropr_len, htk]; rfl)) ?_
    rintro ⟨m, v2⟩ hm
    dsimp only at hm ⊢
    repeat (first | refine gG ?_ | refine zN1 (fun hlen => ?_) | refine zN2 (fun hlen => ?_) | refine zAl (fun _ => ?_) | refine zBx (fun _ => ?_) | refine zAp (fun _ => ?_))
    refine x_cond rfl (fun h => ?_) (fun h => ?_)
    · obtain ⟨m, rfl⟩ : ∃ m', m = m' + 1 := by
        have : (0 : Int) ≤ (m : Int) - 1 := of_decide_eq_true h
        exact ⟨m - 1, by omega⟩
      obtain ⟨r, hr⟩ := nth (show m < rsx.length by omega)
      have hle := downr_le (S) Ar.body rsx m
      have hl1 := downr_len (S) Ar.body hr
      have hc1 := downr_all (S) Ar.body hr
      have htot := htl1
      clear h
      repeat (first | refine gG ?_ | refine zN1 (fun hlen => ?_) | refine zN2 (fun hlen => ?_) | refine zAl (fun _ => ?_) | refine zBx (fun _ => ?_) | refine zAp (fun _ => ?_))
      refine zIx m (show m < rsx.length by omega) ?_ (hz := by omega)
      repeat (first | refine gG ?_ | refine zN1 (fun hlen => ?_) | refine zN2 (fun hlen => ?_) | refine zAl (fun _ => ?_) | refine zBx (fun _ => ?_) | refine zAp (fun _ => ?_))
      refine zEl (Ar.at_body hr) (Ex.ts_len _) ?_
      obtain ⟨⟨kp, np, tp, lp⟩, ⟨kb, nb, tb, nsb, ysb, lb, rsb, pb⟩⟩ := r
      repeat (first | refine gG ?_ | refine zN1 (fun hlen => ?_) | refine zN2 (fun hlen => ?_) | refine zAl (fun _ => ?_) | refine zBx (fun _ => ?_) | refine zAp (fun _ => ?_))
      refine lo_sub rfl rfl (r := ((m : Nat) : Int) - 1) (by rw [IntWalk.i64_in _ (by omega)]; omega) ?_
      repeat (first | refine gG ?_ | refine zN1 (fun hlen => ?_) | refine zN2 (fun hlen => ?_) | refine zAl (fun _ => ?_) | refine zBx (fun _ => ?_) | refine zAp (fun _ => ?_))
      exact ⟨(m, _), by simp only; omega, by simp only; omega, x_wkd 3 ⟨rfl, rfl, trivial⟩ (by simp only [hl1, hc1]; rfl) (by repeat (first | exact ag_refl | refine ag_upd rfl ?_ | refine ag_at rfl rfl ?_))⟩
    · have h0 : m = 0 := by
        have : ¬ (0 : Int) ≤ (m : Int) - 1 := of_decide_eq_false h
        omega
      subst h0
      clear h
      rw [List.drop_zero]
      repeat (first | refine gG ?_ | refine zN1 (fun hlen => ?_) | refine zN2 (fun hlen => ?_) | refine zAl (fun _ => ?_) | refine zBx (fun _ => ?_) | refine zAp (fun _ => ?_))
      refine lo_sub rfl rfl (r := ((lx.length : Nat) : Int) - 1) (by rw [IntWalk.i64_in _ (by omega)]) ?_
      repeat (first | refine gG ?_ | refine zN1 (fun hlen => ?_) | refine zN2 (fun hlen => ?_) | refine zAl (fun _ => ?_) | refine zBx (fun _ => ?_) | refine zAp (fun _ => ?_))
      refine x_loop [3, 7, 49, 50, 51, 52, 53, 54, 55, 56, 57, 58, 59, 60] (fun y : Nat × Value => [(7, .c (.lit (.int .i64 (((y.1 : Nat) : Int) - 1)))), (3, .own 0 y.2)]) (fun y => [.row y.2 40 8 ((S ++ (rsx.map Ar.body).reverse) ++ ((lx.drop y.1).map id).reverse).length (Ex.all ((S ++ (rsx.map Ar.body).reverse) ++ ((lx.drop y.1).map id).reverse)), .row u1 40 8 (O.length + 1) (Ex.all O ++ Ex.ts (.mk kx nx tx nsx ysx lx rsx px)), .box b 40 [.c (.lit (.int .i64 kx)), .c (.lit (.int .i64 nx)), .c (.lit (.string tx)), .c (strRow nsx), .c (Y.row ysx), .c (Ex.row lx), .c (Ar.row rsx), .c (.lit (.int .i64 px))]])
        (fun y => y.1 ≤ lx.length) (fun y => y.1) (lx.length, _) (Nat.le_refl _) ⟨rfl, rfl, trivial⟩ (by first | (simp only [dropr_len]; done) | (simp only [dropr_len]; rfl)) ?_
      rintro ⟨m, v2⟩ hm
      dsimp only at hm ⊢
      repeat (first | refine gG ?_ | refine zN1 (fun hlen => ?_) | refine zN2 (fun hlen => ?_) | refine zAl (fun _ => ?_) | refine zBx (fun _ => ?_) | refine zAp (fun _ => ?_))
      refine x_cond rfl (fun h => ?_) (fun h => ?_)
      · obtain ⟨m, rfl⟩ : ∃ m', m = m' + 1 := by
          have : (0 : Int) ≤ (m : Int) - 1 := of_decide_eq_true h
          exact ⟨m - 1, by omega⟩
        obtain ⟨r, hr⟩ := nth (show m < lx.length by omega)
        have hle := downr_le ((S ++ (rsx.map Ar.body).reverse)) id lx m
        have hl1 := downr_len ((S ++ (rsx.map Ar.body).reverse)) id hr
        have hc1 := downr_all ((S ++ (rsx.map Ar.body).reverse)) id hr
        have htot := htl2
        clear h
        repeat (first | refine gG ?_ | refine zN1 (fun hlen => ?_) | refine zN2 (fun hlen => ?_) | refine zAl (fun _ => ?_) | refine zBx (fun _ => ?_) | refine zAp (fun _ => ?_))
        refine zIx m (show m < lx.length by omega) ?_ (hz := by omega)
        repeat (first | refine gG ?_ | refine zN1 (fun hlen => ?_) | refine zN2 (fun hlen => ?_) | refine zAl (fun _ => ?_) | refine zBx (fun _ => ?_) | refine zAp (fun _ => ?_))
        refine zEl (Ex.at hr) (Ex.ts_len _) ?_
        obtain ⟨kb, nb, tb, nsb, ysb, lb, rsb, pb⟩ := r
        repeat (first | refine gG ?_ | refine zN1 (fun hlen => ?_) | refine zN2 (fun hlen => ?_) | refine zAl (fun _ => ?_) | refine zBx (fun _ => ?_) | refine zAp (fun _ => ?_))
        refine lo_sub rfl rfl (r := ((m : Nat) : Int) - 1) (by rw [IntWalk.i64_in _ (by omega)]; omega) ?_
        repeat (first | refine gG ?_ | refine zN1 (fun hlen => ?_) | refine zN2 (fun hlen => ?_) | refine zAl (fun _ => ?_) | refine zBx (fun _ => ?_) | refine zAp (fun _ => ?_))
        exact ⟨(m, _), by simp only; omega, by simp only; omega, x_wkd 3 ⟨rfl, rfl, trivial⟩ (by simp only [hl1, hc1]; rfl) (by repeat (first | exact ag_refl | refine ag_upd rfl ?_ | refine ag_at rfl rfl ?_))⟩
      · have h0 : m = 0 := by
          have : ¬ (0 : Int) ≤ (m : Int) - 1 := of_decide_eq_false h
          omega
        subst h0
        clear h
        rw [List.drop_zero]
        repeat (first | refine gG ?_ | refine zN1 (fun hlen => ?_) | refine zN2 (fun hlen => ?_) | refine zAl (fun _ => ?_) | refine zBx (fun _ => ?_) | refine zAp (fun _ => ?_))
        exact ⟨((S ++ (rsx.map Ar.body).reverse) ++ lx.reverse, O ++ [.mk kx nx tx nsx ysx lx rsx px], _, _), hnew, by simp only [List.length_append, List.length_cons, List.length_nil]; omega, x_wkd 2 ⟨rfl, rfl, trivial⟩ (by simp only [List.map_id_fun, id_eq, List.length_append, List.length_cons, List.length_nil, Ex.all_app, Ex.all_one]; rfl) (by repeat (first | exact ag_refl | refine ag_upd rfl ?_ | refine ag_at rfl rfl ?_))⟩
  · have h0 : S0 = [] := by
      have : ¬ (0 : Int) < (S0.length : Int) := of_decide_eq_false h
      exact List.length_eq_zero_iff.1 (by omega)
    subst h0
    simp only [List.reverse_nil, List.flatMap_nil, List.append_nil] at hI
    subst hI
    clear h
    repeat (first | refine gG ?_ | refine zN1 (fun hlen => ?_) | refine zN2 (fun hlen => ?_) | refine zAl (fun _ => ?_) | refine zBx (fun _ => ?_) | refine zAp (fun _ => ?_))
    first | refine zR ?_ | refine zQ ?_
    rfl
end Go.Proofs.YtllgibfmddihgaaDoor
