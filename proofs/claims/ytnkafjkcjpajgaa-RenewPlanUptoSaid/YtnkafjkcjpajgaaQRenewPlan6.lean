/-
  Texts of this proof, part 6: Tex Tsc Ab20 Ab22 Ab23 Ab24 Ab29 Ab33 Ab37 Ab38 Ab41.
-/
import Derived.Test.YtnkafjkcjpajgaaQRenewPlan5
import Derived.Laws.Strings2
import Derived.Lib.AppendStr
import Derived.Lib.AppendZerosOnto
import Derived.Lib.MinMax
namespace Go.Proofs.Ytnkafjkcjpajgaa
open Go.RowKit
mutual
inductive Ex where
  | mk (kind num : Int) (text : ByteArray) (names : List ByteArray) (types : List Y) (args : List Ex) (arms : List Ar) (pos : Int)
inductive Ar where
  | mk (pat : V) (body : Ex)
end
mutual
def Ex.ts : Ex → List T
  | .mk k n t ns ys l rs a => [.lit (.int .i64 k), .lit (.int .i64 n), .lit (.string t), strRow ns, Y.row ys, .row l.length 8 (Ex.all l), .row rs.length 12 (Ar.all rs), .lit (.int .i64 a)]
def Ex.all : List Ex → List T
  | [] => []
  | v :: r => v.ts ++ Ex.all r
def Ar.ts : Ar → List T
  | .mk p b => p.ts ++ b.ts
def Ar.all : List Ar → List T
  | [] => []
  | v :: r => v.ts ++ Ar.all r
end
theorem Ex.all_eq : ∀ l : List Ex, Ex.all l = l.flatMap Ex.ts
  | [] => rfl
  | v :: l => by rw [Ex.all, Ex.all_eq l]; rfl
theorem Ar.all_eq : ∀ l : List Ar, Ar.all l = l.flatMap Ar.ts
  | [] => rfl
  | v :: l => by rw [Ar.all, Ar.all_eq l]; rfl
theorem Ex.ts_len : ∀ v : Ex, v.ts.length = 8
  | .mk _ _ _ _ _ _ _ _ => rfl
theorem Ar.ts_len : ∀ v : Ar, v.ts.length = 12
  | .mk p b => by rw [Ar.ts, List.length_append, V.ts_len, Ex.ts_len]
def Ex.row (l : List Ex) : T := .row l.length 8 (Ex.all l)
def Ex.t (v : Ex) : T := .agg v.ts
def Ar.row (l : List Ar) : T := .row l.length 12 (Ar.all l)
theorem Ex.at {l : List Ex} {k : Nat} {v : Ex} (h : l[k]? = some v) : ((Ex.all l).drop (k * 8)).take 8 = v.ts := by rw [Ex.all_eq]; exact flat_at Ex.ts 8 Ex.ts_len h
theorem Ar.at {l : List Ar} {k : Nat} {v : Ar} (h : l[k]? = some v) : ((Ar.all l).drop (k * 12)).take 12 = v.ts := by rw [Ar.all_eq]; exact flat_at Ar.ts 12 Ar.ts_len h
theorem Ex.all_app (l r : List Ex) : Ex.all (l ++ r) = Ex.all l ++ Ex.all r := by simp [Ex.all_eq]
theorem Ex.all_one (v : Ex) : Ex.all [v] = v.ts := by simp [Ex.all]
theorem V.all_app' (l r : List V) : V.all (l ++ r) = V.all l ++ V.all r := by simp [V.all_eq]
def strSize (l : List ByteArray) : Nat := (l.map fun s => s.size + 1).sum
mutual
def Ex.size : Ex → Nat
  | .mk _ _ t ns ys l rs _ => t.size + strSize ns + Y.sizes ys + Ex.sizes l + Ar.sizes rs + 1
def Ex.sizes : List Ex → Nat
  | [] => 0
  | v :: r => v.size + Ex.sizes r
def Ar.size : Ar → Nat
  | .mk p b => p.size + b.size
def Ar.sizes : List Ar → Nat
  | [] => 0
  | v :: r => v.size + Ar.sizes r
end
theorem Ex.sizes_sum : ∀ l : List Ex, Ex.sizes l = (l.map Ex.size).sum
  | [] => rfl
  | v :: l => by simp [Ex.sizes, Ex.sizes_sum l]
theorem Ar.sizes_sum : ∀ l : List Ar, Ar.sizes l = (l.map Ar.size).sum
  | [] => rfl
  | v :: l => by simp [Ar.sizes, Ar.sizes_sum l]
theorem sum_mem' {α : Type} (μ : α → Nat) : ∀ {l : List α} {a : α}, a ∈ l → μ a ≤ (l.map μ).sum
  | [], _, h => by simp at h
  | x :: l, a, h => by
    simp only [List.map_cons, List.sum_cons]
    rcases List.mem_cons.1 h with rfl | h
    · omega
    · have := sum_mem' μ h; omega
theorem len_sum' {α : Type} (μ : α → Nat) (h : ∀ a, 1 ≤ μ a) : ∀ l : List α, l.length ≤ (l.map μ).sum
  | [] => by simp
  | x :: l => by have := h x; have := len_sum' μ h l; simp only [List.map_cons, List.sum_cons, List.length_cons]; omega
theorem Ex.size_mem {v : Ex} {l : List Ex} (h : v ∈ l) : v.size ≤ Ex.sizes l := by rw [Ex.sizes_sum]; exact sum_mem' Ex.size h
theorem Ar.size_mem {v : Ar} {l : List Ar} (h : v ∈ l) : v.size ≤ Ar.sizes l := by rw [Ar.sizes_sum]; exact sum_mem' Ar.size h
theorem Ex.size_pos : ∀ v : Ex, 1 ≤ v.size
  | .mk _ _ _ _ _ _ _ _ => by simp only [Ex.size]; omega
theorem Ar.size_pos : ∀ v : Ar, 1 ≤ v.size
  | .mk p b => by have := b.size_pos; simp only [Ar.size]; omega
theorem Ex.len_sizes (l : List Ex) : l.length ≤ Ex.sizes l := by rw [Ex.sizes_sum]; exact len_sum' Ex.size Ex.size_pos l
theorem Ar.len_sizes (l : List Ar) : l.length ≤ Ar.sizes l := by rw [Ar.sizes_sum]; exact len_sum' Ar.size Ar.size_pos l
theorem strSize_len (l : List ByteArray) : l.length ≤ strSize l := len_sum' (fun s : ByteArray => s.size + 1) (fun _ => by omega) l
instance : Inhabited Ex := ⟨.mk 0 0 ⟨#[]⟩ [] [] [] [] 0⟩
instance : Inhabited Ar := ⟨.mk (.mk 0 0 ⟨#[]⟩ []) default⟩
structure Us where
  name : ByteArray
  low : Int
  high : Int
def Us.ts : Us → List T
  | ⟨f_name, f_low, f_high⟩ => [.lit (.string f_name), .lit (.int .i64 f_low), .lit (.int .i64 f_high)]
theorem Us.ts_len (x : Us) : x.ts.length = 3 := by simp [Us.ts]
def Us.t (x : Us) : T := .agg x.ts
def Us.row (l : List Us) : T := .row l.length 3 (l.flatMap Us.ts)
theorem Us.at {l : List Us} {k : Nat} {x : Us} (h : l[k]? = some x) : ((l.flatMap Us.ts).drop (k * 3)).take 3 = x.ts := flat_at Us.ts 3 Us.ts_len h
def Us.size : Us → Nat
  | ⟨f_name, _, _⟩ => f_name.size + 1
def Us.sizes (l : List Us) : Nat := (l.map Us.size).sum
theorem Us.size_mem {x : Us} {l : List Us} (h : x ∈ l) : x.size ≤ Us.sizes l := sum_mem' Us.size h
theorem Us.len_sizes (l : List Us) : l.length ≤ Us.sizes l := len_sum' Us.size (fun x => by simp only [Us.size]; omega) l
instance : Inhabited Us := ⟨⟨⟨#[]⟩, 0, 0⟩⟩
structure Mk where
  name : ByteArray
  args : List Y
def Mk.ts : Mk → List T
  | ⟨f_name, f_args⟩ => [.lit (.string f_name), Y.row f_args]
theorem Mk.ts_len (x : Mk) : x.ts.length = 2 := by simp [Mk.ts]
def Mk.t (x : Mk) : T := .agg x.ts
def Mk.row (l : List Mk) : T := .row l.length 2 (l.flatMap Mk.ts)
theorem Mk.at {l : List Mk} {k : Nat} {x : Mk} (h : l[k]? = some x) : ((l.flatMap Mk.ts).drop (k * 2)).take 2 = x.ts := flat_at Mk.ts 2 Mk.ts_len h
def Mk.size : Mk → Nat
  | ⟨f_name, f_args⟩ => f_name.size + Y.sizes f_args + 1
def Mk.sizes (l : List Mk) : Nat := (l.map Mk.size).sum
theorem Mk.size_mem {x : Mk} {l : List Mk} (h : x ∈ l) : x.size ≤ Mk.sizes l := sum_mem' Mk.size h
theorem Mk.len_sizes (l : List Mk) : l.length ≤ Mk.sizes l := len_sum' Mk.size (fun x => by simp only [Mk.size]; omega) l
instance : Inhabited Mk := ⟨⟨⟨#[]⟩, []⟩⟩
structure Da where
  name : ByteArray
  params : List ByteArray
  makes : List Mk
def Da.ts : Da → List T
  | ⟨f_name, f_params, f_makes⟩ => [.lit (.string f_name), strRow f_params, Mk.row f_makes]
theorem Da.ts_len (x : Da) : x.ts.length = 3 := by simp [Da.ts]
def Da.t (x : Da) : T := .agg x.ts
def Da.row (l : List Da) : T := .row l.length 3 (l.flatMap Da.ts)
theorem Da.at {l : List Da} {k : Nat} {x : Da} (h : l[k]? = some x) : ((l.flatMap Da.ts).drop (k * 3)).take 3 = x.ts := flat_at Da.ts 3 Da.ts_len h
def Da.size : Da → Nat
  | ⟨f_name, f_params, f_makes⟩ => f_name.size + strSize f_params + Mk.sizes f_makes + 1
def Da.sizes (l : List Da) : Nat := (l.map Da.size).sum
theorem Da.size_mem {x : Da} {l : List Da} (h : x ∈ l) : x.size ≤ Da.sizes l := sum_mem' Da.size h
theorem Da.len_sizes (l : List Da) : l.length ≤ Da.sizes l := len_sum' Da.size (fun x => by simp only [Da.size]; omega) l
instance : Inhabited Da := ⟨⟨⟨#[]⟩, [], []⟩⟩
structure Fu where
  name : ByteArray
  params : List ByteArray
  names : List ByteArray
  types : List Y
  out : Y
  body : Ex
def Fu.ts : Fu → List T
  | ⟨f_name, f_params, f_names, f_types, f_out, f_body⟩ => [.lit (.string f_name), strRow f_params, strRow f_names, Y.row f_types] ++ f_out.ts ++ f_body.ts
theorem Fu.ts_len (x : Fu) : x.ts.length = 15 := by simp [Fu.ts, Ex.ts_len, Y.ts_len]
def Fu.t (x : Fu) : T := .agg x.ts
def Fu.row (l : List Fu) : T := .row l.length 15 (l.flatMap Fu.ts)
theorem Fu.at {l : List Fu} {k : Nat} {x : Fu} (h : l[k]? = some x) : ((l.flatMap Fu.ts).drop (k * 15)).take 15 = x.ts := flat_at Fu.ts 15 Fu.ts_len h
def Fu.size : Fu → Nat
  | ⟨f_name, f_params, f_names, f_types, f_out, f_body⟩ => f_name.size + strSize f_params + strSize f_names + Y.sizes f_types + f_out.size + f_body.size + 1
def Fu.sizes (l : List Fu) : Nat := (l.map Fu.size).sum
theorem Fu.size_mem {x : Fu} {l : List Fu} (h : x ∈ l) : x.size ≤ Fu.sizes l := sum_mem' Fu.size h
theorem Fu.len_sizes (l : List Fu) : l.length ≤ Fu.sizes l := len_sum' Fu.size (fun x => by simp only [Fu.size]; omega) l
instance : Inhabited Fu := ⟨⟨⟨#[]⟩, [], [], [], default, default⟩⟩
structure Tr where
  name : ByteArray
  funcs : List Fu
def Tr.ts : Tr → List T
  | ⟨f_name, f_funcs⟩ => [.lit (.string f_name), Fu.row f_funcs]
theorem Tr.ts_len (x : Tr) : x.ts.length = 2 := by simp [Tr.ts]
def Tr.t (x : Tr) : T := .agg x.ts
def Tr.row (l : List Tr) : T := .row l.length 2 (l.flatMap Tr.ts)
theorem Tr.at {l : List Tr} {k : Nat} {x : Tr} (h : l[k]? = some x) : ((l.flatMap Tr.ts).drop (k * 2)).take 2 = x.ts := flat_at Tr.ts 2 Tr.ts_len h
def Tr.size : Tr → Nat
  | ⟨f_name, f_funcs⟩ => f_name.size + Fu.sizes f_funcs + 1
def Tr.sizes (l : List Tr) : Nat := (l.map Tr.size).sum
theorem Tr.size_mem {x : Tr} {l : List Tr} (h : x ∈ l) : x.size ≤ Tr.sizes l := sum_mem' Tr.size h
theorem Tr.len_sizes (l : List Tr) : l.length ≤ Tr.sizes l := len_sum' Tr.size (fun x => by simp only [Tr.size]; omega) l
instance : Inhabited Tr := ⟨⟨⟨#[]⟩, []⟩⟩
structure Im where
  trait : ByteArray
  dat : ByteArray
  funcs : List Fu
def Im.ts : Im → List T
  | ⟨f_trait, f_dat, f_funcs⟩ => [.lit (.string f_trait), .lit (.string f_dat), Fu.row f_funcs]
theorem Im.ts_len (x : Im) : x.ts.length = 3 := by simp [Im.ts]
def Im.t (x : Im) : T := .agg x.ts
def Im.row (l : List Im) : T := .row l.length 3 (l.flatMap Im.ts)
theorem Im.at {l : List Im} {k : Nat} {x : Im} (h : l[k]? = some x) : ((l.flatMap Im.ts).drop (k * 3)).take 3 = x.ts := flat_at Im.ts 3 Im.ts_len h
def Im.size : Im → Nat
  | ⟨f_trait, f_dat, f_funcs⟩ => f_trait.size + f_dat.size + Fu.sizes f_funcs + 1
def Im.sizes (l : List Im) : Nat := (l.map Im.size).sum
theorem Im.size_mem {x : Im} {l : List Im} (h : x ∈ l) : x.size ≤ Im.sizes l := sum_mem' Im.size h
theorem Im.len_sizes (l : List Im) : l.length ≤ Im.sizes l := len_sum' Im.size (fun x => by simp only [Im.size]; omega) l
instance : Inhabited Im := ⟨⟨⟨#[]⟩, ⟨#[]⟩, []⟩⟩
structure Ac where
  name : ByteArray
  names : List ByteArray
  types : List Y
  msg : Y
  body : Ex
def Ac.ts : Ac → List T
  | ⟨f_name, f_names, f_types, f_msg, f_body⟩ => [.lit (.string f_name), strRow f_names, Y.row f_types] ++ f_msg.ts ++ f_body.ts
theorem Ac.ts_len (x : Ac) : x.ts.length = 14 := by simp [Ac.ts, Ex.ts_len, Y.ts_len]
def Ac.t (x : Ac) : T := .agg x.ts
def Ac.row (l : List Ac) : T := .row l.length 14 (l.flatMap Ac.ts)
theorem Ac.at {l : List Ac} {k : Nat} {x : Ac} (h : l[k]? = some x) : ((l.flatMap Ac.ts).drop (k * 14)).take 14 = x.ts := flat_at Ac.ts 14 Ac.ts_len h
def Ac.size : Ac → Nat
  | ⟨f_name, f_names, f_types, f_msg, f_body⟩ => f_name.size + strSize f_names + Y.sizes f_types + f_msg.size + f_body.size + 1
def Ac.sizes (l : List Ac) : Nat := (l.map Ac.size).sum
theorem Ac.size_mem {x : Ac} {l : List Ac} (h : x ∈ l) : x.size ≤ Ac.sizes l := sum_mem' Ac.size h
theorem Ac.len_sizes (l : List Ac) : l.length ≤ Ac.sizes l := len_sum' Ac.size (fun x => by simp only [Ac.size]; omega) l
instance : Inhabited Ac := ⟨⟨⟨#[]⟩, [], [], default, default⟩⟩
structure Pr where
  name : ByteArray
  version : Int
  uses : List Us
  datas : List Da
  traits : List Tr
  impls : List Im
  funcs : List Fu
  actors : List Ac
def Pr.ts : Pr → List T
  | ⟨f_name, f_version, f_uses, f_datas, f_traits, f_impls, f_funcs, f_actors⟩ => [.lit (.string f_name), .lit (.int .i64 f_version), Us.row f_uses, Da.row f_datas, Tr.row f_traits, Im.row f_impls, Fu.row f_funcs, Ac.row f_actors]
theorem Pr.ts_len (x : Pr) : x.ts.length = 8 := by simp [Pr.ts]
def Pr.t (x : Pr) : T := .agg x.ts
def Pr.row (l : List Pr) : T := .row l.length 8 (l.flatMap Pr.ts)
theorem Pr.at {l : List Pr} {k : Nat} {x : Pr} (h : l[k]? = some x) : ((l.flatMap Pr.ts).drop (k * 8)).take 8 = x.ts := flat_at Pr.ts 8 Pr.ts_len h
def Pr.size : Pr → Nat
  | ⟨f_name, _, f_uses, f_datas, f_traits, f_impls, f_funcs, f_actors⟩ => f_name.size + Us.sizes f_uses + Da.sizes f_datas + Tr.sizes f_traits + Im.sizes f_impls + Fu.sizes f_funcs + Ac.sizes f_actors + 1
def Pr.sizes (l : List Pr) : Nat := (l.map Pr.size).sum
theorem Pr.size_mem {x : Pr} {l : List Pr} (h : x ∈ l) : x.size ≤ Pr.sizes l := sum_mem' Pr.size h
theorem Pr.len_sizes (l : List Pr) : l.length ≤ Pr.sizes l := len_sum' Pr.size (fun x => by simp only [Pr.size]; omega) l
instance : Inhabited Pr := ⟨⟨⟨#[]⟩, 0, [], [], [], [], [], []⟩⟩
end Go.Proofs.Ytnkafjkcjpajgaa
namespace Go.Proofs.Ytnkafjkcjpajgaa
open Go.RowKit
inductive Sc where
  | nil
  | mk (params : List ByteArray) (args : List Y) (outer : Sc)
def Sc.t : Sc → T
  | .nil => .lit (.pointer none)
  | .mk ps ars o => .pin [strRow ps, Y.row ars, o.t] 0
def Y.kind : Y → Int
  | .mk k _ _ => k
def Y.name : Y → ByteArray
  | .mk _ n _ => n
/-- the place of a name among names -/
def posOf (s : ByteArray) (l : List ByteArray) : Int := idxI (fun x => decide (s = x)) l
def res (y : Y) : Sc → Y × Sc
  | .nil => (y, .nil)
  | .mk ps ars o => if y.kind = 5 then (if posOf y.name ps < 0 then (y, .mk ps ars o) else match ars[(posOf y.name ps).toNat]? with | some z => res z o | none => (y, .mk ps ars o)) else (y, .mk ps ars o)
theorem res_at {y z : Y} {ps : List ByteArray} {ars : List Y} {o : Sc} {m : Nat} (hk : y.kind = 5) (hm : posOf y.name ps = m) (hz : ars[m]? = some z) : res y (.mk ps ars o) = res z o := by
  rw [res, if_pos hk, if_neg (by omega), hm, Int.toNat_natCast, hz]
theorem res_neg {y : Y} {ps : List ByteArray} {ars : List Y} {o : Sc} (hk : y.kind = 5) (h : posOf y.name ps < 0) : res y (.mk ps ars o) = (y, .mk ps ars o) := by rw [res, if_pos hk, if_pos h]
theorem res_over {y : Y} {ps : List ByteArray} {ars : List Y} {o : Sc} (hk : y.kind = 5) (h : ¬ posOf y.name ps < 0) (hn : ars[(posOf y.name ps).toNat]? = none) : res y (.mk ps ars o) = (y, .mk ps ars o) := by rw [res, if_pos hk, if_neg h, hn]
theorem res_kind {y : Y} (hk : ¬ y.kind = 5) : ∀ s : Sc, res y s = (y, s)
  | .nil => rfl
  | .mk _ _ _ => by rw [res, if_neg hk]
def basicOf (k : Int) : Int := if k = 1 then 2 else if k = 2 then 3 else if k = 3 then 4 else if k = 4 then 1 else 0
set_option maxRecDepth 100000 in
set_option maxHeartbeats 1000000 in
theorem idxStr_af (l : List ByteArray) (s : ByteArray) : AF Try.prog 101 [strRow l, .lit (.string s)] (· = .lit (.int .i64 (posOf s l))) := by
  refine af_enter tok Try.func101 Try.ntmps101 Try.results101 rfl (by kernel_rfl) rfl rfl fun F hX => ?_
  repeat (first | refine gG ?_ | refine zN1 (fun hlen => ?_) | refine zN2 (fun hlen => ?_))
  refine x_loop [4, 5, 8, 9, 10, 11, 12, 13, 14, 15, 16, 17, 18] (fun k : Nat => [(8, .c (.lit (.int .i64 k)))]) (fun _ => []) (fun k => k ≤ l.length ∧ idxAt (fun x => decide (s = x)) l k) (fun k => l.length - k) 0 ⟨Nat.zero_le _, idxAt_zero _ l⟩ ⟨rfl, trivial⟩ rfl fun k hk => ?_
  repeat (first | refine gG ?_ | refine zN1 (fun hlen => ?_) | refine zN2 (fun hlen => ?_))
  refine x_cond rfl (fun h => ?_) (fun h => ?_)
  · have hk' : k < l.length := by simpa using h
    obtain ⟨a, ha⟩ := nth hk'
    have hat := str_at ha
    rw [← Nat.mul_one k] at hat
    repeat (first | refine gG ?_ | refine zN1 (fun hlen => ?_) | refine zN2 (fun hlen => ?_))
    refine zIx k hk' ?_
    repeat (first | refine gG ?_ | refine zN1 (fun hlen => ?_) | refine zN2 (fun hlen => ?_))
    refine zEl1 hat ?_
    cases hp : decide (s = a)
    · repeat (first | refine gG ?_ | refine zN1 (fun hlen => ?_) | refine zN2 (fun hlen => ?_))
      exact ⟨k + 1, ⟨hk', idxAt_no hk.2 ha hp⟩, by omega, x_wkd 0 ⟨rfl, trivial⟩ rfl (by repeat (first | exact ag_refl | refine ag_upd rfl ?_ | refine ag_at rfl rfl ?_))⟩
    · repeat (first | refine gG ?_ | refine zN1 (fun hlen => ?_) | refine zN2 (fun hlen => ?_))
      first | refine zR ?_ | refine zQ ?_
      rw [posOf, idxAt_yes hk.2 ha hp]; rfl
  · have hk' : k = l.length := by have : ¬ k < l.length := by simpa using h
                                  omega
    subst hk'
    repeat (first | refine gG ?_ | refine zN1 (fun hlen => ?_) | refine zN2 (fun hlen => ?_))
    first | refine zR ?_ | refine zQ ?_
    rw [posOf, idxAt_end hk.2]; rfl
/-- the first data of a name -/
def Pr.data (p : Pr) (n : ByteArray) : Option Da := p.datas.find? fun d => decide (d.name = n)
def codeOf : Option Da → Int
  | some _ => 0
  | none => 11
def noDa : Da := ⟨⟨#[]⟩, [], []⟩
set_option maxRecDepth 100000 in
set_option maxHeartbeats 1000000 in
theorem data_af (p : Pr) (n : ByteArray) : AF Try.prog 153 [p.t, .lit (.string n)] (· = .tup [((p.data n).getD noDa).t, .lit (.int .i64 (codeOf (p.data n)))]) := by
  obtain ⟨pn, pv, us, das, trs, ims, fus, acs⟩ := p
  unfold Pr.data
  dsimp only
  refine af_enter tok Try.func153 Try.ntmps153 Try.results153 rfl (by kernel_rfl) rfl rfl fun F hX => ?_
  repeat (first | refine gG ?_ | refine zN1 (fun hlen => ?_) | refine zN2 (fun hlen => ?_) | refine zAl (fun _ => ?_) | refine zBx (fun _ => ?_))
  rename_i b0 b1
  refine x_loop [5, 7, 11, 12, 13, 14, 15, 16, 17, 18, 19, 20] (fun k : Nat => [(11, .c (.lit (.int .i64 k)))]) (fun _ => [.box b0 66 [.c (.lit (.string pn)), .c (.lit (.int .i64 pv)), .c (Us.row us), .c (Da.row das), .c (Tr.row trs), .c (Im.row ims), .c (Fu.row fus), .c (Ac.row acs)], .box b1 135 [.c (.lit (.string ⟨#[]⟩)), .c (.lit (.slice none 0 0)), .c (.lit (.slice none 0 0))]]) (fun k => k ≤ das.length ∧ das.find? (fun d => decide (d.name = n)) = (das.drop k).find? fun d => decide (d.name = n)) (fun k => das.length - k) 0 ⟨Nat.zero_le _, rfl⟩ ⟨rfl, trivial⟩ rfl fun k hk => ?_
  repeat (first | refine gG ?_ | refine zN1 (fun hlen => ?_) | refine zN2 (fun hlen => ?_) | refine zAl (fun _ => ?_) | refine zBx (fun _ => ?_))
  refine x_cond rfl (fun h => ?_) (fun h => ?_)
  · have hk' : k < das.length := by simpa using h
    obtain ⟨a, ha⟩ := nth hk'
    have hdr : (das.drop k).find? (fun d => decide (d.name = n)) = if decide (a.name = n) then some a else (das.drop (k + 1)).find? fun d => decide (d.name = n) := by
      obtain ⟨h1, rfl⟩ := List.getElem?_eq_some_iff.1 ha
      rw [List.drop_eq_getElem_cons h1, List.find?_cons]
      split <;> simp_all
    repeat (first | refine gG ?_ | refine zN1 (fun hlen => ?_) | refine zN2 (fun hlen => ?_) | refine zAl (fun _ => ?_) | refine zBx (fun _ => ?_))
    refine zIx (k) (hk') ?_
    repeat (first | refine gG ?_ | refine zN1 (fun hlen => ?_) | refine zN2 (fun hlen => ?_) | refine zAl (fun _ => ?_) | refine zBx (fun _ => ?_))
    refine zEl (Da.at ha) (Da.ts_len a) ?_
    obtain ⟨dn, dps, mks⟩ := a
    dsimp only at hdr
    cases hp : decide (dn = n)
    · repeat (first | refine gG ?_ | refine zN1 (fun hlen => ?_) | refine zN2 (fun hlen => ?_) | refine zAl (fun _ => ?_) | refine zBx (fun _ => ?_))
      exact ⟨k + 1, ⟨hk', by rw [hk.2, hdr, hp]; rfl⟩, by omega, x_wkd 2 ⟨rfl, trivial⟩ rfl (by repeat (first | exact ag_refl | refine ag_upd rfl ?_ | refine ag_at rfl rfl ?_))⟩
    · have hf : das.find? (fun d => decide (d.name = n)) = some ⟨dn, dps, mks⟩ := by rw [hk.2, hdr, hp]; rfl
      rw [hf]
      repeat (first | refine gG ?_ | refine zN1 (fun hlen => ?_) | refine zN2 (fun hlen => ?_) | refine zAl (fun _ => ?_) | refine zBx (fun _ => ?_))
      first | refine zR ?_ | refine zQ ?_
      rfl
  · have hk' : k = das.length := by have : ¬ k < das.length := by simpa using h
                                    omega
    subst hk'
    have hf : das.find? (fun d => decide (d.name = n)) = none := by rw [hk.2, List.drop_length]; rfl
    rw [hf]
    repeat (first | refine gG ?_ | refine zN1 (fun hlen => ?_) | refine zN2 (fun hlen => ?_) | refine zAl (fun _ => ?_) | refine zBx (fun _ => ?_))
    first | refine zR (ts := [noDa.t, .lit (.int .i64 11)]) ?_ | refine zQ (ts := [noDa.t, .lit (.int .i64 11)]) ?_
    rfl
set_option maxRecDepth 100000 in
set_option maxHeartbeats 1000000 in
theorem basic_af (k : Int) : AF Try.prog 159 [.lit (.int .i64 k)] (· = .lit (.int .i64 (basicOf k))) := by
  refine af_enter tok Try.func159 Try.ntmps159 Try.results159 rfl (by kernel_rfl) rfl rfl fun F hX => ?_
  by_cases k1 : k = 1
  · subst k1
    repeat (first | refine gG ?_)
    first | refine zR ?_ | refine zQ ?_
    rfl
  by_cases k2 : k = 2
  · subst k2
    repeat (first | refine gG ?_)
    first | refine zR ?_ | refine zQ ?_
    rfl
  by_cases k3 : k = 3
  · subst k3
    repeat (first | refine gG ?_)
    first | refine zR ?_ | refine zQ ?_
    rfl
  by_cases k4 : k = 4
  · subst k4
    repeat (first | refine gG ?_)
    first | refine zR ?_ | refine zQ ?_
    rfl
  have e1 : decide (k = 1) = false := by simpa using k1
  have e2 : decide (k = 2) = false := by simpa using k2
  have e3 : decide (k = 3) = false := by simpa using k3
  have e4 : decide (k = 4) = false := by simpa using k4
  repeat (first | refine gG ?_)
  first | refine zR ?_ | refine zQ ?_
  simp [basicOf, k1, k2, k3, k4, outT]
def Sc.depth : Sc → Nat
  | .nil => 0
  | .mk _ _ o => o.depth + 1
set_option maxRecDepth 100000 in
set_option maxHeartbeats 2000000 in
theorem resolve_af (y0 : Y) (s0 : Sc) : AF Try.prog 158 [y0.t, s0.t] (· = .tup [(res y0 s0).1.t, (res y0 s0).2.t]) := by
  obtain ⟨k0, n0, l0⟩ := y0
  refine af_enter tok Try.func158 Try.ntmps158 Try.results158 rfl (by kernel_rfl) rfl rfl fun F hX => ?_
  repeat (first | refine gG ?_ | refine zN1 (fun hlen => ?_) | refine zN2 (fun hlen => ?_) | refine zAl (fun _ => ?_) | refine zBx (fun _ => ?_))
  rename_i b0 b1
  refine x_loop [1, 6, 7, 8, 9, 10, 11, 12, 13, 14, 15, 16, 17, 18, 19, 20, 21, 22, 23, 24, 25, 26, 27, 28, 29, 30, 31, 32, 33, 34, 35, 36, 37, 38, 39, 40, 41, 42] (fun y : Y × Sc => [(1, .c y.2.t)]) (fun y => [.box b0 69 (y.1.ts.map .c), .box b1 69 [.c (.lit (.int .i64 0)), .c (.lit (.string ⟨#[]⟩)), .c (.lit (.slice none 0 0))]]) (fun y => res (.mk k0 n0 l0) s0 = res y.1 y.2) (fun y => y.2.depth) (.mk k0 n0 l0, s0) rfl ⟨rfl, trivial⟩ rfl ?_
  rintro ⟨⟨k, n, l⟩, s⟩ hI
  dsimp only at hI ⊢
  rw [hI]
  cases d5 : decide (k = 5)
  · have hr : res (.mk k n l) s = (.mk k n l, s) := res_kind (y := .mk k n l) (of_decide_eq_false (p := k = 5) d5) s
    rw [hr]
    repeat (first | refine gG ?_ | refine zN1 (fun hlen => ?_) | refine zN2 (fun hlen => ?_) | refine zAl (fun _ => ?_) | refine zBx (fun _ => ?_))
    first | refine zR ?_ | refine zQ ?_
    rfl
  · have h5 : k = 5 := of_decide_eq_true d5
    cases s with
    | nil =>
      repeat (first | refine gG ?_ | refine zN1 (fun hlen => ?_) | refine zN2 (fun hlen => ?_) | refine zAl (fun _ => ?_) | refine zBx (fun _ => ?_))
      first | refine zR ?_ | refine zQ ?_
      rfl
    | mk ps ars o =>
      have hix := idxStr_af ps n
      cases d6 : decide (posOf n ps < 0)
      · have h6 : ¬ posOf n ps < 0 := of_decide_eq_false d6
        cases d7 : decide ((ars.length : Int) ≤ posOf n ps)
        · have h7 : ¬ (ars.length : Int) ≤ posOf n ps := of_decide_eq_false d7
          obtain ⟨m, hm⟩ : ∃ m : Nat, posOf n ps = m := ⟨(posOf n ps).toNat, by omega⟩
          have hml : m < ars.length := by omega
          obtain ⟨z, hz⟩ := nth hml
          have hr : res (.mk k n l) (.mk ps ars o) = res z o := res_at h5 hm hz
          have hzt := Y.at hz
          rw [hr]
          repeat (first | refine gG ?_ | refine zN1 (fun hlen => ?_) | refine zN2 (fun hlen => ?_) | refine zAl (fun _ => ?_) | refine zBx (fun _ => ?_))
          refine ac_draw [1, 1, 1, 1, 1, 1, 1, 1] [0, 1, 2, 3, 4, 5, 6, 7] (by kernel_rfl) (by kernel_rfl) ?_
          refine gW ?_
          apply w_q; (focus exact rfl); (focus exact rfl); focus (intro _; (refine lo_call hix rfl (by repeat (first | exact rzs_nil | apply rzs_cons | exact rz_c | exact rz_nil rfl | apply rz_agg | exact rz_own rfl | apply rz_fn | exact rz_ptr rfl | apply rz_tup)) ?_; rintro _ rfl); exact det_refl)
          refine gW ?_
          refine w_nil ?_
          repeat (first | refine gG ?_ | refine zN1 (fun hlen => ?_) | refine zN2 (fun hlen => ?_) | refine zAl (fun _ => ?_) | refine zBx (fun _ => ?_))
          obtain ⟨kz, nz, lz⟩ := z
          refine ac_draw [1, 1, 1, 1, 1, 1, 1, 0, 0, 0, 0, 2, 1] [0, 1, 2, 3, 4, 5, 6, 7, 8, 9, 10, 11, 12] (by kernel_rfl) (by kernel_rfl) ?_
          refine gW ?_
          apply w_q; (focus exact rfl); (focus exact rfl); focus (intro _; (refine zIx m hml ?_ (hz := hm)); exact det_refl)
          apply w_q; (focus exact rfl); (focus exact rfl); focus (intro _; (refine zEl hzt (Y.ts_len _) ?_); exact det_refl)
          refine gW ?_
          apply w_l; (focus exact rfl); (focus exact rfl); (refine zS ?_)
          refine gW ?_
          refine w_nil ?_
          repeat (first | refine gG ?_ | refine zN1 (fun hlen => ?_) | refine zN2 (fun hlen => ?_) | refine zAl (fun _ => ?_) | refine zBx (fun _ => ?_))
          exact ⟨(.mk kz nz lz, o), rfl, by simp only [Sc.depth]; omega, x_wkd 2 ⟨rfl, trivial⟩ rfl (by repeat (first | exact ag_refl | refine ag_upd rfl ?_ | refine ag_at rfl rfl ?_))⟩
        · have h7 : (ars.length : Int) ≤ posOf n ps := of_decide_eq_true d7
          have hn : ars[(posOf n ps).toNat]? = none := List.getElem?_eq_none (by omega)
          have hr : res (.mk k n l) (.mk ps ars o) = (.mk k n l, .mk ps ars o) := res_over h5 h6 hn
          rw [hr]
          repeat (first | refine gG ?_ | refine zN1 (fun hlen => ?_) | refine zN2 (fun hlen => ?_) | refine zAl (fun _ => ?_) | refine zBx (fun _ => ?_))
          refine ac_draw [1, 1, 1, 1, 1, 1, 1, 1] [0, 1, 2, 3, 4, 5, 6, 7] (by kernel_rfl) (by kernel_rfl) ?_
          refine gW ?_
          apply w_q; (focus exact rfl); (focus exact rfl); focus (intro _; (refine lo_call hix rfl (by repeat (first | exact rzs_nil | apply rzs_cons | exact rz_c | exact rz_nil rfl | apply rz_agg | exact rz_own rfl | apply rz_fn | exact rz_ptr rfl | apply rz_tup)) ?_; rintro _ rfl); exact det_refl)
          refine gW ?_
          refine w_nil ?_
          repeat (first | refine gG ?_ | refine zN1 (fun hlen => ?_) | refine zN2 (fun hlen => ?_) | refine zAl (fun _ => ?_) | refine zBx (fun _ => ?_))
          first | refine zR ?_ | refine zQ ?_
          rfl
      · have h6 : posOf n ps < 0 := of_decide_eq_true d6
        have hr : res (.mk k n l) (.mk ps ars o) = (.mk k n l, .mk ps ars o) := res_neg h5 h6
        rw [hr]
        repeat (first | refine gG ?_ | refine zN1 (fun hlen => ?_) | refine zN2 (fun hlen => ?_) | refine zAl (fun _ => ?_) | refine zBx (fun _ => ?_))
        refine ac_draw [1, 1, 1, 1, 1, 1, 1, 1] [0, 1, 2, 3, 4, 5, 6, 7] (by kernel_rfl) (by kernel_rfl) ?_
        refine gW ?_
        apply w_q; (focus exact rfl); (focus exact rfl); focus (intro _; (refine lo_call hix rfl (by repeat (first | exact rzs_nil | apply rzs_cons | exact rz_c | exact rz_nil rfl | apply rz_agg | exact rz_own rfl | apply rz_fn | exact rz_ptr rfl | apply rz_tup)) ?_; rintro _ rfl); exact det_refl)
        refine gW ?_
        refine w_nil ?_
        repeat (first | refine gG ?_ | refine zN1 (fun hlen => ?_) | refine zN2 (fun hlen => ?_) | refine zAl (fun _ => ?_) | refine zBx (fun _ => ?_))
        first | refine zR ?_ | refine zQ ?_
        rfl
end Go.Proofs.Ytnkafjkcjpajgaa
namespace Go.Proofs.Ytnkafjkcjpajgaa
open Go.RowKit
theorem HeapOk.take {F : Frm} {M : Mm} {hp : List Blk} {w : World} (h : HeapOk F M hp w) (k : Nat) : HeapOk F M (hp.take k) w := by
  have hg : ∀ (i : Nat) (x : Blk), (hp.take k)[i]? = some x → hp[i]? = some x := by
    intro i x hx
    rw [List.getElem?_take] at hx
    split at hx
    · exact hx
    · cases hx
  exact ⟨h.mem, h.ext, h.frm, fun i x hx => h.at_ i x (hg i x hx), fun i j x y b hx hy => h.sep i j x y b (hg i x hx) (hg j y hy), fun i x b hx => h.out i x b (hg i x hx)⟩
/-- the function, given values that read so and blocks of the caller's own, returns a value that reads so, the blocks turned -/
def AG (P : Program) (f : FuncId) (asq : List AV) (hs : List Blk) (R : AV → List Blk → Prop) : Prop :=
  Enters P f ∧ ∀ (F : Frm) (M : Mm) (w : World) (vs : List Value), HeapOk F M hs w → RAs M asq vs →
    Calls P f vs.toArray w fun e w' => ∃ v r hs' M', e = .returned v ∧ R r hs' ∧ Ext F.may M M' ∧ HeapOk F M' hs' w' ∧ RA M' r v
theorem AG.imp {P : Program} {f : FuncId} {asq : List AV} {hs : List Blk} {R R' : AV → List Blk → Prop} (h : AG P f asq hs R) (hi : ∀ r hs, R r hs → R' r hs) : AG P f asq hs R' :=
  ⟨h.1, fun F M w vs hM hv => (h.2 F M w vs hM hv).mono fun _ _ ⟨v, r, hs', M', h1, h2, h3⟩ => ⟨v, r, hs', M', h1, hi r hs' h2, h3⟩⟩
/-- the end of such a function: the first k blocks are handed back -/
structure FinG (L : Tab) (res : List ResultVar) (k : Nat) (R : AV → List Blk → Prop) (e : Exit) (σ : AS) : Prop where
  out : (e = .normal ∨ e = .ret) ∧ ∃ vs, OutsA L σ res vs ∧ R (outA vs) (σ.hp.take k)
section
variable {P : Program} {F : Frm} {L : Tab}
theorem ag_enter {f : FuncId} {fn : Func} {c : Code} {asq : List AV} {hs : List Blk} {R : AV → List Blk → Prop} {N : Nat} {res : List ResultVar} (k : Nat) (hL : TabOk P L) (hf : P.funcs[f]? = some fn) (hNt : fn.ntmps = N) (hres : fn.results = res.toArray) (hb : fn.body = some c) (hn : (fn.name == "runtime.NumGoroutine") = false) (hN : Nat.ble asq.length N = true)
    (h : ∀ F, AC P F c (FinG L res k R) ⟨initT N asq, hs, N⟩) : AG P f asq hs R := by
  refine ⟨⟨fn, hf, hn, by rw [hb]; rfl⟩, fun F M w vs hh hav => ?_⟩
  have hlen := hav.len
  have hNl := Nat.le_of_ble_eq_true hN
  refine calls_of_wp hf hb (wp_mono ((h ⟨F.w0, F.X, M, F.G, F.GX⟩).out M _ w ⟨?_, ?_, rfl, ⟨hh.mem, Ext.refl _ _, ⟨hh.frm.os, hh.frm.tape, hh.frm.output, hh.frm.size, hh.frm.block⟩, hh.at_, hh.sep, hh.out⟩⟩) ?_)
  · intro i
    simp only [initT]
    by_cases hi : i < asq.length
    · have : Nat.blt i N = true := Nat.ble_eq_true_of_le (by omega)
      rw [this, cond_true]
      have h1 : asq[i]? = some asq[i] := List.getElem?_eq_getElem hi
      obtain ⟨x, hx, hra⟩ := hav.get h1
      rw [List.getD_eq_getElem?_getD, h1]
      have h2 : i < vs.length := by omega
      have h3 : vs[i] = x := by rw [List.getElem?_eq_getElem h2] at hx; injection hx
      simp [Array.getD_eq_getD_getElem?, Array.getElem?_append, h2, h3]
      exact hra
    · have h1 : asq.getD i (.c (.lit undef)) = .c (.lit undef) := by
        rw [List.getD_eq_getElem?_getD, List.getElem?_eq_none (by omega)]; rfl
      rw [h1]
      have h2 : ¬ i < vs.length := by omega
      have h3 : (vs.toArray ++ Array.replicate (fn.ntmps - vs.toArray.size) undef).getD i undef = undef := by
        simp [Array.getD_eq_getD_getElem?, Array.getElem?_append, h2, Array.getElem?_replicate]
        split <;> rfl
      rw [h3]
      cases Nat.blt i N <;> simp only [cond_true, cond_false, RA, RT]
  · simp [hNt]; omega
  · rintro e' a' w' ⟨M', σ', ⟨⟨he', vs', ho, hK⟩⟩, hr⟩
    rw [show res = fn.results.toList by rw [hres]] at ho
    obtain ⟨u, hu', hRA⟩ := resultsA_sound hL hr ho
    have hx : Ext F.may M M' := hr.heap.ext
    have hh' : HeapOk F M' σ'.hp w' := ⟨hr.heap.mem, hh.ext.trans hx, ⟨hr.heap.frm.os, hr.heap.frm.tape, hr.heap.frm.output, hr.heap.frm.size, hr.heap.frm.block⟩, hr.heap.at_, hr.heap.sep, hr.heap.out⟩
    have hfin : a'.defers = [] ∧ ∃ v, (results fn a'.tmps).run P w' = .ok v w' ∧ ∃ v' r hs' M', Ending.returned v = .returned v' ∧ R r hs' ∧ Ext F.may M M' ∧ HeapOk F M' hs' w' ∧ RA M' r v' :=
      ⟨hr.defers, u, hu', u, outA vs', σ'.hp.take k, M', rfl, hK, hx, hh'.take k, hRA⟩
    rcases he' with rfl | rfl <;> exact hfin
end
def selB (hp : List Blk) : List Nat → Option (List Blk)
  | [] => some []
  | i :: is => match hp[i]?, selB hp is with | some x, some r => some (x :: r) | _, _ => none
def freshB : List Nat → Bool
  | [] => true
  | i :: is => !is.contains i && freshB is
def putB (hp : List Blk) : List Nat → List Blk → List Blk
  | [], hs => hp ++ hs
  | _ :: _, [] => hp
  | i :: is, x :: hs => (putB hp is hs).set i x
def posB (hp : List Blk) (sel : List Nat) (i : Nat) : Nat := match sel[i]? with | some j => j | none => hp.length + (i - sel.length)
theorem selB_get {hp : List Blk} : ∀ {sel : List Nat} {hs : List Blk}, selB hp sel = some hs → ∀ {i : Nat} {x : Blk}, hs[i]? = some x → ∃ j : Nat, sel[i]? = some j ∧ hp[j]? = some x
  | [], hs, h, i, x, hx => by simp only [selB, Option.some.injEq] at h; subst h; simp at hx
  | k :: is, hs, h, i, x, hx => by
    simp only [selB] at h
    cases h1 : hp[k]? with
    | none => rw [h1] at h; cases h
    | some y =>
      cases h2 : selB hp is with
      | none => rw [h1, h2] at h; cases h
      | some r =>
        rw [h1, h2] at h
        simp only [Option.some.injEq] at h
        subst h
        cases i with
        | zero => simp only [List.getElem?_cons_zero, Option.some.injEq] at hx; subst hx; exact ⟨k, rfl, h1⟩
        | succ i => obtain ⟨j, h3, h4⟩ := selB_get h2 (i := i) (by simpa using hx); exact ⟨j, by simpa using h3, h4⟩
theorem freshB_inj : ∀ {sel : List Nat}, freshB sel = true → ∀ {i i' j : Nat}, sel[i]? = some j → sel[i']? = some j → i = i'
  | [], _, i, i', j, h, _ => by simp at h
  | k :: is, hf, i, i', j, h, h' => by
    simp only [freshB, Bool.and_eq_true, Bool.not_eq_true', List.contains_eq_mem, decide_eq_false_iff_not] at hf
    cases i with
    | zero =>
      simp only [List.getElem?_cons_zero, Option.some.injEq] at h
      cases i' with
      | zero => rfl
      | succ i' => simp only [List.getElem?_cons_succ] at h'; exact absurd (h ▸ List.mem_of_getElem? h') hf.1
    | succ i =>
      simp only [List.getElem?_cons_succ] at h
      cases i' with
      | zero => simp only [List.getElem?_cons_zero, Option.some.injEq] at h'; exact absurd (h' ▸ List.mem_of_getElem? h) hf.1
      | succ i' => simp only [List.getElem?_cons_succ] at h'; rw [freshB_inj hf.2 h h']
theorem putB_get {hp : List Blk} : ∀ {sel : List Nat} {hs : List Blk}, sel.length ≤ hs.length → ∀ {j : Nat} {x : Blk}, (putB hp sel hs)[j]? = some x → (∃ i, j = posB hp sel i ∧ hs[i]? = some x) ∨ (hp[j]? = some x ∧ j ∉ sel)
  | [], hs, _, j, x, h => by
    simp only [putB] at h
    rcases Nat.lt_or_ge j hp.length with hj | hj
    · rw [List.getElem?_append_left hj] at h
      exact .inr ⟨h, by simp⟩
    · rw [List.getElem?_append_right hj] at h
      exact .inl ⟨j - hp.length, by simp only [posB, List.getElem?_nil, List.length_nil]; omega, h⟩
  | k :: is, [], hl, _, _, _ => by simp at hl
  | k :: is, y :: hs, hl, j, x, h => by
    simp only [putB, List.getElem?_set] at h
    split at h
    · rename_i hkj
      subst hkj
      split at h
      · exact .inl ⟨0, rfl, by simpa using h⟩
      · cases h
    · rename_i hkj
      rcases putB_get (by simpa using hl) h with ⟨i, h1, h2⟩ | ⟨h1, h2⟩
      · refine .inl ⟨i + 1, ?_, by simpa using h2⟩
        rw [h1]
        simp only [posB, List.getElem?_cons_succ, List.length_cons]
        split <;> omega
      · exact .inr ⟨h1, by simp [h2, Ne.symm hkj]⟩
theorem sub_gx {F : Frm} {M : Mm} {hp hs : List Blk} {w : World} {sel : List Nat} (h : HeapOk F M hp w) (hs' : selB hp sel = some hs) : ∀ x ∈ globTab, ¬ ∃ (i : Nat) (y : Blk), hs[i]? = some y ∧ y.blk = some x.1 := by
  rintro x hx ⟨i, y, h1, h2⟩
  obtain ⟨j, _, h3⟩ := selB_get hs' h1
  obtain ⟨t, fr, e⟩ := F.G x hx
  rcases (h.out j y x.1 h3 h2).1 with h4 | h4
  · exact F.GX x hx h4
  · have := (Array.getElem?_eq_some_iff.1 e).1; omega
def subF (M : Mm) (hs : List Blk) (w : World) (hG : Glob w) (hX : ∀ x ∈ globTab, ¬ ∃ (i : Nat) (y : Blk), hs[i]? = some y ∧ y.blk = some x.1) : Frm := ⟨w, fun b => ∃ (i : Nat) (x : Blk), hs[i]? = some x ∧ x.blk = some b, M, hG, hX⟩
theorem heap_sel {F : Frm} {M : Mm} {hp hs : List Blk} {w : World} {sel : List Nat} (h : HeapOk F M hp w) (hs' : selB hp sel = some hs) (hf : freshB sel = true) : HeapOk (subF M hs w h.glob (sub_gx h hs')) M hs w := by
  refine ⟨h.mem, Ext.refl _ _, ⟨rfl, rfl, rfl, Nat.le_refl _, fun _ _ _ => rfl⟩, fun i x hx => ?_, fun i j x y b hx hy hxb hyb => ?_, fun i x b hx hxb => ?_⟩
  · obtain ⟨j, _, h2⟩ := selB_get hs' hx
    exact h.at_ j x h2
  · obtain ⟨k, h1, h2⟩ := selB_get hs' hx
    obtain ⟨k', h3, h4⟩ := selB_get hs' hy
    have := h.sep k k' x y b h2 h4 hxb hyb
    subst this
    exact freshB_inj hf h1 h3
  · obtain ⟨j, _, h2⟩ := selB_get hs' hx
    exact ⟨.inl ⟨i, x, hx, hxb⟩, (h.out j x b h2 hxb).2⟩
theorem sub_may {F : Frm} {M : Mm} {hp hs : List Blk} {w : World} {sel : List Nat} (h : HeapOk F M hp w) (hs' : selB hp sel = some hs) (b : Nat) (hb : (subF M hs w h.glob (sub_gx h hs')).may b) : F.may b := by
  rcases hb with ⟨i, x, hx, hxb⟩ | hb
  · obtain ⟨j, _, h2⟩ := selB_get hs' hx
    exact (h.out j x b h2 hxb).1
  · exact .inr (Nat.le_trans h.frm.size hb)
theorem heap_put {F : Frm} {M M' : Mm} {hp hs hs2 : List Blk} {w w' : World} {sel : List Nat} (h : HeapOk F M hp w) (hsl : selB hp sel = some hs) (hl : sel.length ≤ hs2.length) (h2 : HeapOk (subF M hs w h.glob (sub_gx h hsl)) M' hs2 w') : HeapOk F M' (putB hp sel hs2) w' := by
  have hM : Ext (subF M hs w h.glob (sub_gx h hsl)).may M M' := h2.ext
  have hX : ∀ b, (subF M hs w h.glob (sub_gx h hsl)).X b → ∃ (j : Nat) (x : Blk), j ∈ sel ∧ hp[j]? = some x ∧ x.blk = some b := by
    rintro b ⟨i, x, hx, hb⟩
    obtain ⟨j, h3, h4⟩ := selB_get hsl hx
    exact ⟨j, x, List.mem_of_getElem? h3, h4, hb⟩
  have hold : ∀ (j : Nat) (x : Blk) (b : Nat), hp[j]? = some x → j ∉ sel → x.blk = some b → b < w.heap.size ∧ ¬ (subF M hs w h.glob (sub_gx h hsl)).X b := by
    intro j x b hx hj hb
    refine ⟨(h.at_ j x hx).lt hb, fun hXb => ?_⟩
    obtain ⟨k, y, hk, hy, hyb⟩ := hX b hXb
    have := h.sep j k x y b hx hy hb hyb
    subst this
    exact hj hk
  refine ⟨h2.mem, h.ext.trans (hM.to (sub_may h hsl)), ⟨h2.frm.os.trans h.frm.os, h2.frm.tape.trans h.frm.tape, h2.frm.output.trans h.frm.output, Nat.le_trans h.frm.size h2.frm.size, fun b hb hnX => ?_⟩, fun j x hx => ?_, fun j k x y b hx hy hxb hyb => ?_, fun j x b hx hxb => ?_⟩
  · refine (h2.frm.block b (Nat.lt_of_lt_of_le hb h.frm.size) fun hXb => ?_).trans (h.frm.block b hb hnX)
    obtain ⟨k, y, _, hy, hyb⟩ := hX b hXb
    rcases (h.out k y b hy hyb).1 with h3 | h3
    · exact hnX h3
    · omega
  · rcases putB_get hl hx with ⟨i, _, hi⟩ | ⟨hj, hns⟩
    · exact h2.at_ i x hi
    · exact (h.at_ j x hj).keep hM.sub fun b hb hlt => h2.frm.block b hlt (hold j x b hj hns hb).2
  · rcases putB_get hl hx with ⟨i, hji, hi⟩ | ⟨hj, hns⟩
    · rcases putB_get hl hy with ⟨i', hji', hi'⟩ | ⟨hk, hns'⟩
      · rw [hji, hji', h2.sep i i' x y b hi hi' hxb hyb]
      · obtain ⟨h3, h4⟩ := hold k y b hk hns' hyb
        rcases (h2.out i x b hi hxb).1 with h5 | h5
        · exact absurd h5 h4
        · have : w.heap.size ≤ b := h5
          omega
    · rcases putB_get hl hy with ⟨i', hji', hi'⟩ | ⟨hk, hns'⟩
      · obtain ⟨h3, h4⟩ := hold j x b hj hns hxb
        rcases (h2.out i' y b hi' hyb).1 with h5 | h5
        · exact absurd h5 h4
        · have : w.heap.size ≤ b := h5
          omega
      · exact h.sep j k x y b hj hk hxb hyb
  · rcases putB_get hl hx with ⟨i, hji, hi⟩ | ⟨hj, hns⟩
    · obtain ⟨h3, h4⟩ := h2.out i x b hi hxb
      refine ⟨?_, h4⟩
      rcases h3 with h5 | h5
      · obtain ⟨k, y, _, hy, hyb⟩ := hX b h5
        exact (h.out k y b hy hyb).1
      · exact .inr (Nat.le_trans h.frm.size h5)
    · obtain ⟨h3, h4⟩ := h.out j x b hj hxb
      refine ⟨h3, fun p hp' => ?_⟩
      have hlt := hold j x b hj hns hxb
      cases hc : M' p with
      | none => rfl
      | some v =>
        rcases hM.2 p v hc with h5 | h5
        · rw [h4 p hp'] at h5; cases h5
        · rcases h5 with h6 | h6
          · exact absurd (hp' ▸ h6) hlt.2
          · have h7 : w.heap.size ≤ p.block := h6
            omega
def Re (a b : AV) : Prop := ∀ M u, RA M a u → RA M b u
def Res (asq bs : List AV) : Prop := ∀ M us, RAs M asq us → RAs M bs us
theorem re_refl {a : AV} : Re a a := fun _ _ h => h
theorem re_own {i j : Nat} {v : Value} : Re (.own i v) (.own j v) := fun M u h => by simp only [RA] at h ⊢; exact h
theorem re_ptr {i j b off : Nat} : Re (.ptr i b off) (.ptr j b off) := fun M u h => by simp only [RA] at h ⊢; exact h
theorem re_cls {a : AV} {t : T} (hz : Rzs [] [a] [t]) : Re a (.c t) := fun M u h => by
  have h1 : RAs M [a] [u] := by simp only [RAs]; exact ⟨u, [], rfl, h, rfl⟩
  have h2 := cls_sound _ _ _ hz h1
  simp only [RTs] at h2
  obtain ⟨x, r, e, h3, _⟩ := h2
  injection e with e _
  subst e
  simpa only [RA] using h3
theorem res_nil : Res [] [] := fun _ _ h => h
theorem res_cons {a b : AV} {asq bs : List AV} (h : Re a b) (h' : Res asq bs) : Res (a :: asq) (b :: bs) := fun M us hu => by
  simp only [RAs] at hu ⊢
  obtain ⟨x, r, e, h1, h2⟩ := hu
  exact ⟨x, r, e, h M x h1, h' M r h2⟩
section
variable {P : Program} {F : Frm} {d : Option Tmp} {ty : TypeId} {pos : String} {aft : Array Edge} {g : Option (Nat × Bool)} {ρ : Operand → AV} {hp : List Blk} {K : AV → List Blk → Prop}
theorem lo_callG {f : FuncId} {y : Operand} {xs : List Operand} {ats : Array TypeId} {asq cap : List AV} {hs : List Blk} {R : AV → List Blk → Prop} (sel : List Nat) (hc : AG P f asq hs R) (hy : ∀ M u, RA M (ρ y) u → ∃ cs : List Value, u = .func (.func f) #[] cs.toArray ∧ RAs M cap cs) (hx : Res (xs.map ρ ++ cap) asq) (hsl : selB hp sel = some hs) (hf : freshB sel = true)
    (h : ∀ r hs2, R r hs2 → ∃ r', Re r r' ∧ sel.length ≤ hs2.length ∧ K r' (putB hp sel hs2)) : LO P F ⟨d, .call { callee := .value y, args := xs.toArray, argTypes := ats }, ty, pos, aft, g⟩ ρ hp K := by
  refine ⟨fun M e w he hh => ?_⟩
  obtain ⟨hE, hcall⟩ := hc
  have h1 := he y (by simp [Op.operands, Call.operands])
  obtain ⟨cs, hu, hcs⟩ := hy M _ h1
  rw [run_call hE hu]
  have hav := (ev_all xs (fun x hx => he x (by simp [Op.operands, Call.operands, hx]))).app hcs
  refine (hcall (subF M hs w hh.glob (sub_gx hh hsl)) M w _ (heap_sel hh hsl hf) (hx M _ hav)).mono ?_
  rintro e' w' ⟨v, r, hs2, M', rfl, hR, hM, hh2, hr⟩
  obtain ⟨r', hre, hl, hK⟩ := h r hs2 hR
  exact ⟨v, rfl, M', r', _, hK, hM.to (sub_may hh hsl), heap_put hh hsl hl hh2, hre M' v hr⟩
end
end Go.Proofs.Ytnkafjkcjpajgaa
namespace Go.Proofs.Ytnkafjkcjpajgaa
open Go.RowKit
section
variable {L : Tab} {σ : AS}
theorem outsA_nil : OutsA L σ [] [] := by simp only [OutsA]
theorem outsA_cons {r : ResultVar} {rs : List ResultVar} {v : AV} {vs : List AV} (h : OutA L σ r v) (h' : OutsA L σ rs vs) : OutsA L σ (r :: rs) (v :: vs) := by simp only [OutsA]; exact ⟨v, vs, rfl, h, h'⟩
theorem outA_tmp {i : Nat} {v : AV} (h : fc (σ.tmps i) = some v) : OutA L σ (.tmp i) v := by simp only [OutA]; exact fc_eq h
theorem outA_agg {a ty i b off : Nat} {tb : TypeId} {cs l : List AV} {ti : TI} (h1 : σ.tmps a = .ptr i b off) (h2 : σ.hp[i]? = some (.box b tb cs)) (h3 : L.look ty = some ti) (h4 : ti.agg = true) (h5 : Nat.ble (off + ti.size) cs.length = true) (h6 : evl ((cs.drop off).take ti.size) = some l) : OutA L σ (.cell a ty) (.agg l) := by
  simp only [OutA]
  refine ⟨i, b, off, tb, cs, ti, h1, h2, h3, ?_⟩
  rw [h4]
  exact ⟨Nat.le_of_ble_eq_true h5, by rw [evl_eq h6]⟩
theorem outA_one {a ty i b off : Nat} {tb : TypeId} {cs : List AV} {v : AV} {ti : TI} (h1 : σ.tmps a = .ptr i b off) (h2 : σ.hp[i]? = some (.box b tb cs)) (h3 : L.look ty = some ti) (h4 : ti.agg = false) (h5 : cs[off]? = some v) : OutA L σ (.cell a ty) v := by
  simp only [OutA]
  refine ⟨i, b, off, tb, cs, ti, h1, h2, h3, ?_⟩
  rw [h4]
  exact h5
theorem zG {res : List ResultVar} {k : Nat} {R : AV → List Blk → Prop} {e : Exit} {vs : List AV} {hq : List Blk} (h : R (outA vs) hq) (he : e = .normal ∨ e = .ret := by first | exact .inl rfl | exact .inr rfl)
    (ho : OutsA L σ res vs := by repeat (first | exact outsA_nil | apply outsA_cons | (apply outA_tmp; (focus exact rfl)) | (apply outA_agg; (focus exact rfl); (focus exact rfl); (focus exact rfl); (focus exact rfl); (focus exact rfl); (focus exact rfl)) | (apply outA_one; (focus exact rfl); (focus exact rfl); (focus exact rfl); (focus exact rfl); (focus exact rfl))))
    (hh : evl (σ.hp.take k) = some hq := by exact rfl) : FinG L res k R e σ := ⟨he, vs, ho, by rw [← evl_eq hh]; exact h⟩
end
section
variable {P : Program} {F : Frm} {L : Tab} {d : Option Tmp} {ty : TypeId} {pos : String} {aft : Array Edge} {g : Option (Nat × Bool)} {ρ : Operand → AV} {hp : List Blk} {K : AV → List Blk → Prop}
theorem zCallG {f : FuncId} {y : Operand} {xs : List Operand} {ats : Array TypeId} {asq cap : List AV} {hs : List Blk} {R : AV → List Blk → Prop} (sel : List Nat) (hc : AG P f asq hs R)
    (h : ∀ r hs2, R r hs2 → ∃ r' hp', Re r r' ∧ Nat.ble sel.length hs2.length = true ∧ evl (putB hp sel hs2) = some hp' ∧ K r' hp') (hy : ρ y = .fn (.func f) cap := by exact rfl)
    (hx : Res (xs.map ρ ++ cap) asq := by repeat (first | exact res_nil | apply res_cons | exact re_own | exact re_ptr | exact re_refl | apply re_cls | exact rzs_nil | apply rzs_cons | exact rz_c | exact rz_nil rfl | apply rz_agg | apply rz_fn | apply rz_tup)) (hsl : selB hp sel = some hs := by exact rfl) (hf : freshB sel = true := by exact rfl) :
    LO P F ⟨d, .call { callee := .value y, args := xs.toArray, argTypes := ats }, ty, pos, aft, g⟩ ρ hp K :=
  lo_callG sel hc (fun M u hu => by rw [hy] at hu; simpa only [RA] using hu) hx hsl hf fun r hs2 hR => by
    obtain ⟨r', hp', h1, h2, h3, h4⟩ := h r hs2 hR
    exact ⟨r', h1, Nat.le_of_ble_eq_true h2, by rw [← evl_eq h3]; exact h4⟩
variable {t u e : TypeId} {x y : Operand} {ti tu te : TI} {cs : List T} {n i : Nat} {v : Value} {e' : TypeId}
end
end Go.Proofs.Ytnkafjkcjpajgaa
namespace Go.Proofs.Ytnkafjkcjpajgaa
open Go.RowKit
def bs (l : List UInt8) : ByteArray := ⟨l.toArray⟩
section
variable {P : Program} {F : Frm} {L : Tab} {d : Option Tmp} {ty : TypeId} {pos : String} {aft : Array Edge} {g : Option (Nat × Bool)} {ρ : Operand → AV} {hp : List Blk} {K : AV → List Blk → Prop}
theorem zBo {t el : TypeId} {ti te : TI} {n k : Nat} {parts : List (Nat × Operand)} {cs cs' : List AV} {ts : List T} {hp' : Value → List Blk} (h : ∀ v, K (.own k v) (hp' v)) (hL : TabOk P L := by exact tok) (ht : L.look t = some ti := by exact rfl) (hd : ti.d = .slice el := by exact rfl) (hte : L.look el = some te := by exact rfl) (h0 : Nat.ble 1 te.size = true := by exact rfl) (hn : Nat.ble (n * te.size) 16777216 = true := by exact rfl)
    (hf : fillA (fun i => some (i * te.size, te.size)) ((List.range (n * te.size)).map fun j => .c (.lit (te.zero.getD (j % te.size) undef))) (parts.map fun p => (p.1, ρ p.2)) = some cs := by exact rfl) (he : evl cs = some cs' := by exact rfl) (hz : Rzs [] cs' ts := by repeat (first | exact rzs_nil | apply rzs_cons | exact rz_c | exact rz_nil rfl | apply rz_agg | exact rz_own rfl | apply rz_fn | exact rz_ptr rfl | apply rz_tup)) (hk : lenU hp = some k := by exact rfl) (hq : ∀ v, evl (hp ++ [.row v el te.size n ts]) = some (hp' v) := by exact fun _ => rfl) :
    LO P F ⟨d, .buildSlice t n parts.toArray, ty, pos, aft, g⟩ ρ hp K := v_bslice_own hL ht hd hte h0 hn hf he hz hk hq h
end
end Go.Proofs.Ytnkafjkcjpajgaa
namespace Go.Proofs.Ytnkafjkcjpajgaa
open Go.RowKit
inductive Pl where
  | fin (r : List Nat)
  | fork (p : List Nat) (i : Nat) (a : Pl) (j : Nat) (b : Pl)
def Pl.n : Pl → Nat
  | .fin r => r.length
  | .fork p _ a _ _ => a.n + 1 + p.length
section
variable (P : Program) (F : Frm) (md : Region.Mode) (ops : Array Oper) (N : Nat) (cls : Nat → Nat)
def plB : Pl → Array Bool → Bool
  | .fin r, listed => ordB md ops cls r listed
  | .fork p i a j b, listed => ordP md ops cls p listed && decide (Region.ready md ops (lst p listed) = [i, j]) && plB a ((lst p listed).setIfInBounds i true) && plB b ((lst p listed).setIfInBounds j true) && Nat.beq a.n b.n
def WT (Kf : (Nat → AV) → List Blk → Prop) : Pl → (Nat → AV) → List Blk → Prop
  | .fin r, τ, hp => WO P F ops N cls Kf r τ hp
  | .fork p i a j b, τ, hp => WO P F ops N cls (fun τ hp => WO P F ops N cls (WT Kf a) [i] τ hp ∧ WO P F ops N cls (WT Kf b) [j] τ hp) p τ hp
end
section
variable {P : Program} {F : Frm} {md : Region.Mode} {ops : Array Oper} {N : Nat} {cls : Nat → Nat} {Kf : (Nat → AV) → List Blk → Prop} {τ : Nat → AV} {hp : List Blk}
theorem wt_fin {r : List Nat} (h : WO P F ops N cls Kf r τ hp) : WT P F ops N cls Kf (.fin r) τ hp := h
theorem wt_fork {p : List Nat} {i j : Nat} {a b : Pl} (h : WO P F ops N cls (fun τ hp => WO P F ops N cls (WT P F ops N cls Kf a) [i] τ hp ∧ WO P F ops N cls (WT P F ops N cls Kf b) [j] τ hp) p τ hp) : WT P F ops N cls Kf (.fork p i a j b) τ hp := h
theorem anyA_pl : ∀ (t : Pl) (listed : Array Bool) (τ : Nat → AV) (hp : List Blk), ClosedL md ops listed → plB md ops cls t listed = true → WT P F ops N cls Kf t τ hp → AnyA P F md ops N cls Kf t.n listed τ hp
  | .fin r, listed, τ, hp, hc, hB, h => anyA_ord r listed τ hp hc hB h
  | .fork p i a j b, listed, τ, hp, hc, hB, h => by
    simp only [plB, Bool.and_eq_true] at hB
    obtain ⟨⟨⟨⟨b1, b2⟩, b3⟩, b4⟩, b5⟩ := hB
    have hcl := ordP_closed p _ hc b1
    have hr := of_decide_eq_true b2
    refine anyA_pre (a.n + 1) p listed τ hp hc b1 (WO.mono p (fun τ' hp' h' => ?_) h)
    refine ⟨fun h0 => (by rw [hr] at h0; cases h0), fun k hk => ?_⟩
    have hk' := hk
    rw [hr] at hk'
    simp only [List.mem_cons, List.not_mem_nil, or_false] at hk'
    rcases hk' with rfl | rfl
    · exact opA_mono (fun τ' hp' h' => anyA_pl a _ τ' hp' (hcl.set hk) b3 h') h'.1
    · rw [Nat.eq_of_beq_eq_true b5]; exact opA_mono (fun τ' hp' h' => anyA_pl b _ τ' hp' (hcl.set hk) b4 h') h'.2
end
section
variable {P : Program} {F : Frm} {τ : Nat → AV} {hp : List Blk} {N : Nat} {Q : Exit → AS → Prop} {id : Nat} {l : List Oper}
theorem ac_drawT (c : List Nat) (t : Pl) (hm : P.follows .mixedOrders = true) (hB : (plB .any l.toArray (clsOf c) t (Array.replicate l.toArray.size false) && Nat.beq t.n l.length) = true)
    (h : WT P F l.toArray N (clsOf c) (fun τ' hp' => Q .normal ⟨τ', hp', N⟩) t τ hp) : AC P F (.region id l.toArray true) Q ⟨τ, hp, N⟩ := by
  refine ⟨fun M a w hr => ?_⟩
  simp only [Bool.and_eq_true] at hB
  have hlen := Nat.eq_of_beq_eq_true hB.2
  have hrd : Rep F M ⟨τ, hp, N⟩ a { w with drawn := w.drawn + 1 } := ⟨hr.tmps, hr.size, hr.defers, hr.heap.drew⟩
  have hcl : ClosedL .any l.toArray (Array.replicate l.toArray.size false) := fun j oj _ hl => by rw [getD_replicate_false] at hl; cases hl
  refine wp_region_any hm ?_
  have H := wpAny_of_A (Q := fun e a' w' => ∃ M' σ', Q e σ' ∧ Rep F M' σ' a' w') (fun M τ hp a w hk hr => ⟨M, _, hk, hr⟩) _ _ _ _ _ _ _ hrd (anyA_pl t _ τ hp hcl hB.1 h)
  rwa [hlen, show l.length = l.toArray.size by simp] at H
end
theorem AG.re {P : Program} {f : FuncId} {asq : List AV} {hs : List Blk} {R R' : AV → List Blk → Prop} (h : AG P f asq hs R) (hi : ∀ r hs, R r hs → ∃ r', Re r r' ∧ R' r' hs) : AG P f asq hs R' :=
  ⟨h.1, fun F M w vs hM hv => (h.2 F M w vs hM hv).mono fun _ _ ⟨v, r, hs', M', h1, h2, h3, h4, h5⟩ => let ⟨r', h6, h7⟩ := hi r hs' h2; ⟨v, r', hs', M', h1, h7, h3, h4, h6 M' v h5⟩⟩
end Go.Proofs.Ytnkafjkcjpajgaa
namespace Go.Proofs.Ytnkafjkcjpajgaa
open Go.RowKit
theorem guard_slice {P : Program} {op : BinOp} {t : TypeId} {x y : Operand} {a b : Option Addr} {n c n' c' : Nat} (w : World) : (eqGuard op t x y (.slice a n c) (.slice b n' c')).run P w = .ok () w := by
  unfold eqGuard; simp
theorem run_nilS {P : Program} {t e : TypeId} (h : P.underlying t = some (.slice e)) (a : Option Addr) (n c : Nat) (w : World) : (Op.equal t (.slice a n c) (.slice none 0 0)).run P w = .ok a.isNone w := by
  rw [Op.equal, show Op.maxDepth = 9999 + 1 from rfl, Op.equalIn]
  simp only [Sem.run_bind, run_underlying h, Result.andThen_ok]
  cases a <;> rfl
section
variable {P : Program} {F : Frm} {L : Tab} {d : Option Tmp} {ty : TypeId} {pos : String} {aft : Array Edge} {g : Option (Nat × Bool)} {ρ : Operand → AV} {hp : List Blk} {K : AV → List Blk → Prop}
theorem zNs {t t' el : TypeId} {ti : TI} {x y : Operand} {n sz : Nat} {cs : List T} (h : ∀ b : Bool, (b = true → n = 0) → K (.c (.lit (.bool b))) hp) (hL : TabOk P L := by exact tok) (hx : ρ x = .c (.row n sz cs) := by exact rfl) (hy : ρ y = .c (.lit (.slice none 0 0)) := by exact rfl) (ht : L.look t = some ti := by exact rfl) (hd : ti.d = .slice el := by exact rfl) : LO P F ⟨d, .binOp .eql t x y t', ty, pos, aft, g⟩ ρ hp K := by
  refine ⟨fun M e w he hh => ?_⟩
  have h1 := he x (by first | (simp [Op.operands]; done) | simp [Op.operands, Call.operands])
  rw [hx] at h1
  have h2 := he y (by first | (simp [Op.operands]; done) | simp [Op.operands, Call.operands])
  rw [hy] at h2
  simp only [RA, RT] at h1 h2
  obtain ⟨A, c, xs, hu, hc, hn, h0, hl, hat, hrt⟩ := h1
  have hr : (execOp e ⟨d, .binOp .eql t x y t', ty, pos, aft, g⟩).run P w = .ok (.value (.bool A.isNone)) w := by
    simp [execOp, hu, h2, guard_slice, binOp, run_nilS (hL.slice ht hd)]
  rw [hr]
  refine ⟨M, _, hp, h A.isNone fun hb => ?_, Ext.refl _ _, hh, by simp only [RA, RT]⟩
  rcases Nat.eq_zero_or_pos n with h3 | h3
  · exact h3
  · obtain ⟨ad, rfl, _⟩ := hat h3
    cases hb
end
end Go.Proofs.Ytnkafjkcjpajgaa
namespace Go.Proofs.Ytnkafjkcjpajgaa
open Go.RowKit
section
variable {md : Region.Mode} {ops : Array Oper} {cls : Nat → Nat}
/-- m says, bit by bit, for whom each operation waits -/
def claimB (md : Region.Mode) (ops : Array Oper) (m : List Nat) : Bool :=
  (List.range ops.size).all fun j => (List.range ops.size).all fun i => !(m.getD j 0).testBit i ||
    (match ops[j]? with
      | some oj => oj.after.any fun e => Region.binds md e && (e.on == i || (Nat.blt e.on j && (m.getD e.on 0).testBit i))
      | none => false)
theorem claim_reach {m : List Nat} (h : claimB md ops m = true) {i : Nat} (hi : i < ops.size) : ∀ (f j : Nat), j < f → j < ops.size → (m.getD j 0).testBit i = true → reachB md ops f j i = true
  | 0, _, h0, _, _ => by omega
  | f + 1, j, hf, hj, hb => by
    have h1 := List.all_eq_true.1 (List.all_eq_true.1 h j (List.mem_range.2 hj)) i (List.mem_range.2 hi)
    rw [hb] at h1
    simp only [Bool.not_true, Bool.false_or] at h1
    unfold reachB
    split at h1
    · rename_i oj hoj
      rw [hoj]
      obtain ⟨e, he, hq⟩ := Array.any_eq_true'.1 h1
      refine Array.any_eq_true'.2 ⟨e, he, ?_⟩
      simp only [Bool.and_eq_true, Bool.or_eq_true, beq_iff_eq] at hq ⊢
      refine ⟨hq.1, hq.2.imp id fun h2 => ?_⟩
      have hlt : e.on < j := by simpa using h2.1
      exact claim_reach h hi f e.on (by omega) (by omega) h2.2
    · cases h1
def freeC (ops : Array Oper) (cls : Nat → Nat) (m : List Nat) (listed : Array Bool) (i : Nat) : Bool :=
  match ops[i]? with
  | none => false
  | some oi => (List.range ops.size).all fun j => j == i || listed.getD j true || (m.getD j 0).testBit i ||
      (match ops[j]? with | some oj => oi.apart ops oj && (cls j != 2 || cls i == 0) | none => true)
theorem freeC_A {m : List Nat} (h : claimB md ops m = true) {listed : Array Bool} {i : Nat} (hf : freeC ops cls m listed i = true) : freeA md ops cls listed i = true := by
  unfold freeC at hf
  unfold freeA
  split at hf
  · cases hf
  · rename_i oi hoi
    rw [hoi]
    refine List.all_eq_true.2 fun j hj => ?_
    have h1 := List.all_eq_true.1 hf j hj
    simp only [Bool.or_eq_true] at h1 ⊢
    rcases h1 with ((h1 | h1) | h1) | h1
    · exact .inl (.inl (.inl h1))
    · exact .inl (.inl (.inr h1))
    · exact .inl (.inr (claim_reach h (Array.getElem?_eq_some_iff.1 hoi).1 _ j (List.mem_range.1 hj) (List.mem_range.1 hj) h1))
    · exact .inr h1
def ordC (md : Region.Mode) (ops : Array Oper) (cls : Nat → Nat) (m : List Nat) : List Nat → Array Bool → Bool
  | [], listed => (Region.ready md ops listed).isEmpty
  | i :: r, listed => (if 2 ≤ cls i then decide (Region.ready md ops listed = [i]) else (Region.ready md ops listed).contains i && freeC ops cls m listed i) && ordC md ops cls m r (listed.setIfInBounds i true)
theorem ordC_B {m : List Nat} (h : claimB md ops m = true) : ∀ (r : List Nat) (listed : Array Bool), ordC md ops cls m r listed = true → ordB md ops cls r listed = true
  | [], listed, ho => ho
  | i :: r, listed, ho => by
    simp only [ordC, ordB, Bool.and_eq_true] at ho ⊢
    refine ⟨?_, ordC_B h r _ ho.2⟩
    by_cases h2 : 2 ≤ cls i
    · rw [if_pos h2] at ho ⊢; exact ho.1
    · rw [if_neg h2] at ho ⊢
      have h3 := ho.1
      simp only [Bool.and_eq_true] at h3 ⊢
      exact ⟨h3.1, freeC_A h h3.2⟩
end
section
variable {P : Program} {F : Frm} {τ : Nat → AV} {hp : List Blk} {N : Nat} {Q : Exit → AS → Prop} {id : Nat} {l : List Oper}
theorem ac_drawB (m c r : List Nat) (hm : P.follows .mixedOrders = true) (hB : (claimB .any l.toArray m && (ordC .any l.toArray (clsOf c) m r (Array.replicate l.toArray.size false) && Nat.beq r.length l.length)) = true)
    (h : WO P F l.toArray N (clsOf c) (fun τ' hp' => Q .normal ⟨τ', hp', N⟩) r τ hp) : AC P F (.region id l.toArray true) Q ⟨τ, hp, N⟩ := by
  simp only [Bool.and_eq_true] at hB
  refine ac_draw c r hm ?_ h
  simp only [Bool.and_eq_true]
  exact ⟨ordC_B hB.1 _ _ hB.2.1, hB.2.2⟩
end
end Go.Proofs.Ytnkafjkcjpajgaa
namespace Go.Proofs.Ytnkafjkcjpajgaa
open Go.RowKit
theorem TabOk.array {P : Program} {L : Tab} (hL : TabOk P L) {t e : TypeId} {n : Nat} {i : TI} (h : L.look t = some i) (hd : i.d = .array n e) : P.underlying t = some (.array n e) := by
  obtain ⟨d, h1, h2⟩ := hL.desc h
  rw [hd] at h2
  cases d <;> simp [descB] at h2
  rw [h1, h2.1, h2.2]
end Go.Proofs.Ytnkafjkcjpajgaa
namespace Go.Proofs.Ytnkafjkcjpajgaa
open Go.RowKit
inductive Pt where
  | fin (r : List Nat)
  | fork (p : List Nat) (i : Nat) (a : Pt) (j : Nat) (b : Pt)
  | fork3 (p : List Nat) (i : Nat) (a : Pt) (j : Nat) (b : Pt) (k : Nat) (c : Pt)
  | fork4 (p : List Nat) (i : Nat) (a : Pt) (j : Nat) (b : Pt) (k : Nat) (c : Pt) (m : Nat) (d : Pt)
def Pt.n : Pt → Nat
  | .fin r => r.length
  | .fork p _ a _ _ => a.n + 1 + p.length
  | .fork3 p _ a _ _ _ _ => a.n + 1 + p.length
  | .fork4 p _ a _ _ _ _ _ _ => a.n + 1 + p.length
end Go.Proofs.Ytnkafjkcjpajgaa
namespace Go.Proofs.Ytnkafjkcjpajgaa
open Go.RowKit
theorem putB_same : ∀ {hp : List Blk} {sel : List Nat} {hs : List Blk}, selB hp sel = some hs → putB hp sel hs = hp
  | hp, [], hs, h => by simp only [selB, Option.some.injEq] at h; subst h; simp [putB]
  | hp, k :: is, hs, h => by
    simp only [selB] at h
    split at h
    · next x r hx hr =>
      simp only [Option.some.injEq] at h
      subst h
      rw [putB, putB_same hr]
      obtain ⟨h1, rfl⟩ := List.getElem?_eq_some_iff.1 hx
      exact List.set_getElem_self h1
    · cases h
theorem selB_len : ∀ {hp : List Blk} {sel : List Nat} {hs : List Blk}, selB hp sel = some hs → sel.length = hs.length
  | hp, [], hs, h => by simp only [selB, Option.some.injEq] at h; subst h; rfl
  | hp, k :: is, hs, h => by
    simp only [selB] at h
    split at h
    · next x r hx hr =>
      simp only [Option.some.injEq] at h
      subst h
      rw [List.length_cons, List.length_cons, selB_len hr]
    · cases h
theorem re_agg {asq bs : List AV} (h : Res asq bs) : Re (.agg asq) (.agg bs) := fun M u hu => by
  simp only [RA] at hu ⊢
  obtain ⟨xs, e, h1⟩ := hu
  exact ⟨xs, e, h M _ h1⟩
section
variable {P : Program} {F : Frm} {d : Option Tmp} {ty : TypeId} {pos : String} {aft : Array Edge} {g : Option (Nat × Bool)} {ρ : Operand → AV} {hp : List Blk} {K : AV → List Blk → Prop}
theorem zCallR {f : FuncId} {y : Operand} {xs : List Operand} {ats : Array TypeId} {asq cap : List AV} {hs : List Blk} {R : AV → List Blk → Prop} {t : AV} (sel : List Nat) (hc : AG P f asq hs R) (hR : ∀ r hs2, R r hs2 → r = t ∧ hs2 = hs) (h : K t hp) (hy : ρ y = .fn (.func f) cap := by exact rfl)
    (hx : Res (xs.map ρ ++ cap) asq := by repeat (first | exact res_nil | apply res_cons | exact re_own | exact re_ptr | exact re_refl | apply re_agg | apply re_cls | exact rzs_nil | apply rzs_cons | exact rz_c | exact rz_nil rfl | apply rz_agg | apply rz_fn | apply rz_tup)) (hsl : selB hp sel = some hs := by exact rfl) (hf : freshB sel = true := by exact rfl) :
    LO P F ⟨d, .call { callee := .value y, args := xs.toArray, argTypes := ats }, ty, pos, aft, g⟩ ρ hp K :=
  lo_callG sel hc (fun M u hu => by rw [hy] at hu; simpa only [RA] using hu) hx hsl hf fun r hs2 hR' => by
    obtain ⟨rfl, rfl⟩ := hR r hs2 hR'
    exact ⟨_, re_refl, Nat.le_of_eq (selB_len hsl), by rw [putB_same hsl]; exact h⟩
end
end Go.Proofs.Ytnkafjkcjpajgaa
