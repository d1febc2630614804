/-
  Texts of this proof, part 10: Tff Tfg Tfh Tml.
-/
import Derived.Test.YtllgibfmddihgaaQEffectSays9
import Derived.Laws.Strings2
import Derived.Lib.AppendZerosOnto
import Derived.Lib.MinMax
namespace Go.Proofs.Ytllgibfmddihgaa
open Go.RowKit
theorem solve_all (p : Pr) (hp : p.mass ≤ 1048576) : AG Try.prog 102 [.c p.t] [] (SolveR p.funs p.values) :=
  solve_ag p (Nat.le_trans p.bodies_le hp) (fun b hb => Nat.le_trans b.walk_le (Nat.le_trans (p.body_mass hb) hp)) (Nat.le_trans p.values_le hp) (fun v hv => Nat.le_trans v.walk_le (Nat.le_trans (p.value_mass hv) hp))
theorem evalD {F : List Fu} {W : List Ex} {D : Ex → Nat} (hD : DoOk F W D) {σ : ByteArray → Nat} {a : Nat} {es : List (ByteArray × T)} (hm : MapIs σ es) (hs : Sound F W σ a) (hF : ∀ f ∈ F, Shut σ a f) (hW : ∀ v ∈ W, ShutV σ a v) (bm : Nat) (e : Ex) :
    AG Try.prog 103 [.agg [.own 0 (.map (some bm)), .c (.lit (.int .i64 (a : Nat)))], .c (.agg e.eqn.ts)] [.mp bm (mkeys Value.string es)]
      (fun r hq => r = .c (.lit (.int .i64 (D e : Nat))) ∧ hq = [.mp bm (mkeys Value.string es)]) := by
  rw [← eval_eq hD hs hF hW e]
  exact evalQ_ag e.eqn e.own_lt σ hs.2.2.1 a hs.2.2.2 es hm bm
set_option maxRecDepth 100000 in
set_option maxHeartbeats 4000000 in
theorem body_af (p : Pr) (e : Ex) (hp : p.mass ≤ 1048576) (he : e.mass ≤ 1048576) (D : Ex → Nat) (hD : DoOk p.funs p.values D) : AF Try.prog 64 [p.t, e.t] (· = .lit (.int .i64 (D e : Nat))) := by
  have hs := solve_all p hp
  have ho := of_af e (Nat.le_trans e.walk_le he)
  have hev := fun {σ a es} (hm : MapIs σ es) h1 h2 h3 b => evalD hD (σ := σ) (a := a) (es := es) hm h1 h2 h3 b e
  clear hD he hp
  generalize D e = de at *
  generalize p.funs = F at *
  generalize p.values = W at *
  generalize e.eqn = q at *
  obtain ⟨qo, qc, qa⟩ := q
  obtain ⟨nm, vr, us, ds, trs, ims, fus, acs⟩ := p
  obtain ⟨kb, nb, tb, nsb, ysb, lb, rsb, pb⟩ := e
  refine af_enter tok Try.func64 Try.ntmps64 Try.results64 rfl (by kernel_rfl) rfl rfl fun F hX => ?_
  repeat (first | refine gG ?_ | refine zBf ?_)
  refine ac_draw [0, 2, 0, 0, 1, 0] [0, 2, 1, 3, 4, 5] (by kernel_rfl) (by kernel_rfl) ?_
  refine gW ?_
  apply w_l; (focus exact rfl); (focus exact rfl); (refine zCallG [] hs ?_; rintro _ _ ⟨bm, es, σ, a, x0, x1, x2, rfl, rfl, hm, hso, hF, hW⟩; refine ⟨.agg [.own 3 (.map (some bm)), .c (.lit (.int .i64 (a : Nat)))], _, re_refl, rfl, rfl, ?_⟩)
  apply w_p; (focus exact rfl); (focus exact rfl); focus (intro _; (refine zCall ho ?_; rintro _ rfl); exact det_refl)
  apply w_q; (focus exact rfl); (focus exact rfl); focus (intro _; (refine zCallR [3] (hev hm hso hF hW bm) (fun _ _ h => h) ?_); exact det_refl)
  refine gW ?_
  refine w_nil ?_
  repeat (first | refine gG ?_ | refine zBx (fun _ => ?_))
  first | refine zR ?_ | refine zQ ?_
  rfl
set_option maxRecDepth 100000 in
set_option maxHeartbeats 4000000 in
theorem least_af (p : Pr) (hp : p.mass ≤ 1048576) (D : Ex → Nat) (hD : DoOk p.funs p.values D) : AF Try.prog 56 [p.t] (· = .tup [intRow (p.funs.map fun f => (D f.body : Nat)), .lit (.int .i64 (orL (p.values.map D) : Nat))]) := by
  have hs := solve_all p hp
  have hcf := funs_af p (Nat.le_trans p.funs_le hp)
  have hfw : ∀ f ∈ p.funs, f.body.walk.length ≤ 1048576 := fun f hf => Nat.le_trans f.body.walk_le (Nat.le_trans (p.fun_mass hf) hp)
  have hfl := Nat.le_trans p.funs_le hp
  generalize p.funs = FS at *
  generalize p.values = WS at *
  obtain ⟨nm, vr, us, ds, trs, ims, fus, acs⟩ := p
  refine af_enter tok Try.func56 Try.ntmps56 Try.results56 rfl (by kernel_rfl) rfl rfl fun F hX => ?_
  repeat (first | refine gG ?_ | refine zN1 (fun hlen => ?_) | refine zN2 (fun hlen => ?_) | refine zAl (fun _ => ?_) | refine zBf ?_ | refine zAp (fun _ => ?_))
  refine zCallG [] hs ?_
  rintro _ _ ⟨bm, es, σ, a, x0, x1, x2, rfl, rfl, hm, hso, hF, hW⟩
  refine ⟨.agg [.own 3 (.map (some bm)), .c (.lit (.int .i64 (a : Nat)))], _, re_refl, rfl, rfl, ?_⟩
  have hev := evalD hD hm hso hF hW bm
  have han := any_eq hD hso hF hW
  clear hm hso hF hW hs hD
  rw [← han]
  clear han
  repeat (first | refine gG ?_ | refine zN1 (fun hlen => ?_) | refine zN2 (fun hlen => ?_) | refine zAl (fun _ => ?_) | refine zBx (fun _ => ?_) | refine zAp (fun _ => ?_))
  rename_i b4
  refine zCall (hcf) ?_
  rintro _ rfl
  clear hcf
  repeat (first | refine gG ?_ | refine zN1 (fun hlen => ?_) | refine zN2 (fun hlen => ?_) | refine zAl (fun _ => ?_) | refine zBx (fun _ => ?_) | refine zAp (fun _ => ?_))
  refine x_own 5 3 1 rfl rfl rfl rfl rfl ?_
  refine x_loop [5, 7, 13, 14, 15, 16, 17, 18, 19, 20, 21, 22, 23, 24, 25] (fun y : Nat × Value => [(13, .c (.lit (.int .i64 (y.1 : Nat)))), (5, .own 5 y.2)]) (fun y => [x0, x1, x2, .mp bm (mkeys Value.string es), .box b4 206 [.own 3 (.map (some bm)), .c (.lit (.int .i64 ((a : Nat) : Int)))], .row y.2 3 1 (((FS.take y.1).map fun f => ((D f.body : Nat) : Int))).length ((((FS.take y.1).map fun f => ((D f.body : Nat) : Int))).flatMap intTs)])
    (fun y => y.1 ≤ FS.length) (fun y => FS.length - y.1) (0, .slice none 0 0) (Nat.zero_le _) ⟨rfl, rfl, trivial⟩ rfl ?_
  rintro ⟨k, v⟩ hk
  dsimp only at hk ⊢
  repeat (first | refine gG ?_ | refine zN1 (fun hlen => ?_) | refine zN2 (fun hlen => ?_) | refine zAl (fun _ => ?_) | refine zBx (fun _ => ?_) | refine zAp (fun _ => ?_))
  refine x_cond rfl (fun h => ?_) (fun h => ?_)
  · have hk' : k < FS.length := by simpa using h
    obtain ⟨f, hf⟩ := nth hk'
    have hl1 := takem_len (fun f : Fu => ((D f.body : Nat) : Int)) hf
    have hc1 : ((FS.take (k + 1)).map fun f => ((D f.body : Nat) : Int)).flatMap intTs = ((FS.take k).map fun f => ((D f.body : Nat) : Int)).flatMap intTs ++ intTs (D f.body : Nat) := by rw [takem_snoc _ hf, List.flatMap_append]; simp
    have hle : ((FS.take k).map fun f => ((D f.body : Nat) : Int)).length ≤ FS.length := by rw [List.length_map, List.length_take]; omega
    have hof := of_af f.body (hfw f (List.mem_of_getElem? hf))
    have hcall := hev f.body
    clear h hev hfw
    generalize ((FS.take k).map fun f => ((D f.body : Nat) : Int)) = A at *
    generalize hA' : ((FS.take (k + 1)).map fun f => ((D f.body : Nat) : Int)) = A' at *
    generalize D f.body = d at *
    repeat (first | refine gG ?_ | refine zN1 (fun hlen => ?_) | refine zN2 (fun hlen => ?_) | refine zAl (fun _ => ?_) | refine zBx (fun _ => ?_) | refine zAp (fun _ => ?_))
    refine zIx (k) (hk') ?_
    repeat (first | refine gG ?_ | refine zN1 (fun hlen => ?_) | refine zN2 (fun hlen => ?_) | refine zAl (fun _ => ?_) | refine zBx (fun _ => ?_) | refine zAp (fun _ => ?_))
    refine zEl (Fu.at hf) (Fu.ts_len f) ?_
    obtain ⟨fn, fpa, fna, fty, ⟨ko, no, lo⟩, fb⟩ := f
    dsimp only at hof hcall
    generalize fb.eqn = q at *
    obtain ⟨qo, qc, qa⟩ := q
    obtain ⟨kb, nb, tb, nsb, ysb, lb, rsb, pb⟩ := fb
    repeat (first | refine gG ?_ | refine zN1 (fun hlen => ?_) | refine zN2 (fun hlen => ?_) | refine zAl (fun _ => ?_) | refine zBx (fun _ => ?_) | refine zAp (fun _ => ?_))
    refine ac_draw [1, 1, 1, 1, 1, 1, 1, 2, 1] [0, 1, 2, 3, 4, 5, 6, 7, 8] (by kernel_rfl) (by kernel_rfl) ?_
    refine gW ?_
    apply w_q; (focus exact rfl); (focus exact rfl); focus (intro _; (refine zCall hof ?_; rintro _ rfl); exact det_refl)
    apply w_q; (focus exact rfl); (focus exact rfl); focus (intro _; (refine zCallR [3] hcall (fun _ _ h => h) ?_); exact det_refl)
    refine gW ?_
    apply w_l; (focus exact rfl); (focus exact rfl); (refine zAp (fun _ => ?_))
    refine gW ?_
    refine w_nil ?_
    repeat (first | refine gG ?_ | refine zN1 (fun hlen => ?_) | refine zN2 (fun hlen => ?_) | refine zAl (fun _ => ?_) | refine zBx (fun _ => ?_) | refine zAp (fun _ => ?_))
    exact ⟨(k + 1, _), hk', by simp only; omega, x_wkd 6 ⟨rfl, rfl, trivial⟩ (by dsimp only; rw [hA', hl1, hc1]; rfl) (by repeat (first | exact ag_refl | refine ag_upd rfl ?_ | refine ag_at rfl rfl ?_))⟩
  · have hk' : k = FS.length := by
      have : ¬ k < FS.length := by simpa using h
      omega
    subst hk'
    clear h
    rw [List.take_length]
    repeat (first | refine gG ?_ | refine zN1 (fun hlen => ?_) | refine zN2 (fun hlen => ?_) | refine zAl (fun _ => ?_) | refine zBx (fun _ => ?_) | refine zAp (fun _ => ?_))
    refine ac_draw [1, 1, 1, 1, 1] [0, 1, 2, 3, 4] (by kernel_rfl) (by kernel_rfl) ?_
    refine gW ?_
    refine w_nil ?_
    repeat (first | refine gG ?_ | refine zN1 (fun hlen => ?_) | refine zN2 (fun hlen => ?_) | refine zAl (fun _ => ?_) | refine zBx (fun _ => ?_) | refine zAp (fun _ => ?_))
    first | refine zR (ts := [intRow (FS.map fun f => ((D f.body : Nat) : Int)), .lit (.int .i64 (a : Nat))]) ?_ | refine zQ (ts := [intRow (FS.map fun f => ((D f.body : Nat) : Int)), .lit (.int .i64 (a : Nat))]) ?_
    rfl
def okF (D : Ex → Nat) (f : Fu) : Prop := D f.body &&& 47 = 0
def badF (D : Ex → Nat) : List Fu → Int × Int
  | [] => (0, 0)
  | f :: l => if D f.body &&& 47 = 0 then badF D l else (15, f.body.pos)
theorem badF_ok (D : Ex → Nat) : ∀ l : List Fu, (∀ f ∈ l, okF D f) → badF D l = (0, 0)
  | [], _ => rfl
  | f :: l, h => by rw [badF, if_pos (show D f.body &&& 47 = 0 from h f (by simp)), badF_ok D l fun g hg => h g (by simp [hg])]
theorem badF_at (D : Ex → Nat) : ∀ (A : List Fu) (f : Fu) (B : List Fu), (∀ g ∈ A, okF D g) → ¬ okF D f → badF D (A ++ f :: B) = (15, f.body.pos)
  | [], f, B, _, h => by rw [List.nil_append, badF, if_neg (show ¬ D f.body &&& 47 = 0 from h)]
  | g :: A, f, B, hA, h => by rw [List.cons_append, badF, if_pos (show D g.body &&& 47 = 0 from hA g (by simp)), badF_at D A f B (fun x hx => hA x (by simp [hx])) h]
theorem flat_part {α β : Type} (f : α → List β) {l : List α} {k : Nat} {a : α} (h : l[k]? = some a) {j : Nat} {x : β} (hx : (f a)[j]? = some x) :
    l.flatMap f = ((l.take k).flatMap f ++ (f a).take j) ++ x :: ((f a).drop (j + 1) ++ (l.drop (k + 1)).flatMap f) := by
  obtain ⟨h1, rfl⟩ := List.getElem?_eq_some_iff.1 h
  obtain ⟨h2, rfl⟩ := List.getElem?_eq_some_iff.1 hx
  have e : (f l[k]).take j ++ (f l[k])[j] :: (f l[k]).drop (j + 1) = f l[k] := by rw [← List.drop_eq_getElem_cons h2, List.take_append_drop]
  have e' : l.take k ++ l[k] :: l.drop (k + 1) = l := by rw [← List.drop_eq_getElem_cons h1, List.take_append_drop]
  calc l.flatMap f = (l.take k ++ l[k] :: l.drop (k + 1)).flatMap f := by rw [e']
    _ = (l.take k).flatMap f ++ (((f l[k]).take j ++ (f l[k])[j] :: (f l[k]).drop (j + 1)) ++ (l.drop (k + 1)).flatMap f) := by rw [e, List.flatMap_append, List.flatMap_cons]
    _ = _ := by simp only [List.append_assoc, List.cons_append]
/-- the state of the search for it -/
def OkTo (D : Ex → Nat) (I : List Im) (k : Nat) (fs : List Fu) (j : Nat) : Prop := (∀ f ∈ (I.take k).flatMap Im.funcs, okF D f) ∧ ∀ f ∈ fs.take j, okF D f
theorem OkTo.zero (D : Ex → Nat) (I : List Im) : OkTo D I 0 [] 0 := ⟨fun f hf => by simp at hf, fun f hf => by simp at hf⟩
theorem OkTo.inn {D : Ex → Nat} {I : List Im} {k : Nat} (h : OkTo D I k [] 0) (fs : List Fu) : OkTo D I k fs 0 := ⟨h.1, fun f hf => by simp at hf⟩
theorem OkTo.step {D : Ex → Nat} {I : List Im} {k j : Nat} {fs : List Fu} (h : OkTo D I k fs j) {f : Fu} (hf : fs[j]? = some f) (ho : okF D f) : OkTo D I k fs (j + 1) :=
  ⟨h.1, fun g hg => (take_mem hf g hg).elim (h.2 g) fun e => by subst e; exact ho⟩
theorem OkTo.out {D : Ex → Nat} {I : List Im} {k : Nat} {i : Im} (h : OkTo D I k i.funcs i.funcs.length) (hi : I[k]? = some i) : OkTo D I (k + 1) [] 0 := by
  refine ⟨fun f hf => ?_, fun f hf => by simp at hf⟩
  rw [flat_snoc' Im.funcs hi] at hf
  rcases List.mem_append.1 hf with h1 | h1
  · exact h.1 f h1
  · exact h.2 f (by rw [List.take_length]; exact h1)
theorem OkTo.all {D : Ex → Nat} {I : List Im} (h : OkTo D I I.length [] 0) : badF D (I.flatMap Im.funcs) = (0, 0) := badF_ok D _ (by have := h.1; rw [List.take_length] at this; exact this)
theorem OkTo.bad {D : Ex → Nat} {I : List Im} {k j : Nat} {i : Im} (h : OkTo D I k i.funcs j) (hi : I[k]? = some i) {f : Fu} (hf : i.funcs[j]? = some f) (hb : ¬ okF D f) : badF D (I.flatMap Im.funcs) = (15, f.body.pos) := by
  rw [flat_part Im.funcs hi hf]
  exact badF_at D _ f _ (fun g hg => (List.mem_append.1 hg).elim (h.1 g) (h.2 g)) hb
set_option maxRecDepth 100000 in
set_option maxHeartbeats 4000000 in
theorem program_af (p : Pr) (hp : p.mass ≤ 1048576) (D : Ex → Nat) (hD : DoOk p.funs p.values D) : AF Try.prog 54 [p.t] (· = .tup [.lit (.int .i64 (badF D (p.impls.flatMap Im.funcs)).1), .lit (.int .i64 (badF D (p.impls.flatMap Im.funcs)).2)]) := by
  have hs := solve_all p hp
  have hfw : ∀ f ∈ p.impls.flatMap Im.funcs, f.body.walk.length ≤ 1048576 := fun f hf => Nat.le_trans f.body.walk_le (Nat.le_trans (p.fun_mass (by rw [Pr.funs]; exact List.mem_append_left _ hf)) hp)
  generalize p.funs = FS at *
  generalize p.values = WS at *
  obtain ⟨nm, vr, us, ds, trs, ims, fus, acs⟩ := p
  dsimp only at hfw
  refine af_enter tok Try.func54 Try.ntmps54 Try.results54 rfl (by kernel_rfl) rfl rfl fun F hX => ?_
  repeat (first | refine gG ?_ | refine zN1 (fun hlen => ?_) | refine zN2 (fun hlen => ?_) | refine zAl (fun _ => ?_) | refine zBf ?_)
  refine zCallG [] hs ?_
  rintro _ _ ⟨bm, es, σ, a, x0, x1, x2, rfl, rfl, hm, hso, hF, hW⟩
  refine ⟨.agg [.own 3 (.map (some bm)), .c (.lit (.int .i64 (a : Nat)))], _, re_refl, rfl, rfl, ?_⟩
  have hev := evalD hD hm hso hF hW bm
  have hlt := fun e => (hD e).1
  clear hm hso hF hW hs hD
  repeat (first | refine gG ?_ | refine zN1 (fun hlen => ?_) | refine zN2 (fun hlen => ?_) | refine zAl (fun _ => ?_) | refine zBx (fun _ => ?_))
  rename_i b4
  refine x_loop [2, 3, 6, 8, 14, 15, 16, 17, 18, 19, 20, 21, 22, 23, 24, 25, 26, 27, 28, 29, 30, 31, 32, 33, 34, 35, 36] (fun k : Nat => [(14, .c (.lit (.int .i64 (k : Nat))))]) (fun _ => [x0, x1, x2, .mp bm (mkeys Value.string es), .box b4 206 [.own 3 (.map (some bm)), .c (.lit (.int .i64 ((a : Nat) : Int)))]])
    (fun k => k ≤ ims.length ∧ OkTo D ims k [] 0) (fun k => ims.length - k) 0 ⟨Nat.zero_le _, OkTo.zero D ims⟩ ⟨rfl, trivial⟩ rfl ?_
  rintro k ⟨hk, hok⟩
  repeat (first | refine gG ?_ | refine zN1 (fun hlen => ?_) | refine zN2 (fun hlen => ?_) | refine zAl (fun _ => ?_) | refine zBx (fun _ => ?_))
  refine x_cond rfl (fun h => ?_) (fun h => ?_)
  · have hk' : k < ims.length := by simpa using h
    obtain ⟨i, hi⟩ := nth hk'
    have hok := hok.inn i.funcs
    have hout := fun h => OkTo.out (D := D) h hi
    have hbad := fun {j} (h : OkTo D ims k i.funcs j) {f} (hf : i.funcs[j]? = some f) => h.bad hi hf
    have hiw : ∀ f ∈ i.funcs, f.body.walk.length ≤ 1048576 := fun f hf => hfw f (List.mem_flatMap.2 ⟨i, List.mem_of_getElem? hi, hf⟩)
    clear h hfw
    repeat (first | refine gG ?_ | refine zN1 (fun hlen => ?_) | refine zN2 (fun hlen => ?_) | refine zAl (fun _ => ?_) | refine zBx (fun _ => ?_))
    refine zIx (k) (hk') ?_
    repeat (first | refine gG ?_ | refine zN1 (fun hlen => ?_) | refine zN2 (fun hlen => ?_) | refine zAl (fun _ => ?_) | refine zBx (fun _ => ?_))
    refine zEl (Im.at hi) (Im.ts_len i) ?_
    obtain ⟨tn, dn, fs⟩ := i
    dsimp only at hok hout hbad hiw
    clear hi
    repeat (first | refine gG ?_ | refine zN1 (fun hlen => ?_) | refine zN2 (fun hlen => ?_) | refine zAl (fun _ => ?_) | refine zBx (fun _ => ?_))
    refine x_drop 5 rfl ?_
    refine x_loop [2, 3, 8, 21, 22, 23, 24, 25, 26, 27, 28, 29, 30, 31, 32, 33, 34, 35] (fun j : Nat => [(21, .c (.lit (.int .i64 (j : Nat))))]) (fun _ => [x0, x1, x2, .mp bm (mkeys Value.string es), .box b4 206 [.own 3 (.map (some bm)), .c (.lit (.int .i64 ((a : Nat) : Int)))]])
      (fun j => j ≤ fs.length ∧ OkTo D ims k fs j) (fun j => fs.length - j) 0 ⟨Nat.zero_le _, hok⟩ ⟨rfl, trivial⟩ rfl ?_
    clear hok
    rintro j ⟨hj, hok⟩
    repeat (first | refine gG ?_ | refine zN1 (fun hlen => ?_) | refine zN2 (fun hlen => ?_) | refine zAl (fun _ => ?_) | refine zBx (fun _ => ?_))
    refine x_cond rfl (fun h => ?_) (fun h => ?_)
    · have hj' : j < fs.length := by simpa using h
      obtain ⟨f, hf⟩ := nth hj'
      have hof := of_af f.body (hiw f (List.mem_of_getElem? hf))
      have hcall := hev f.body
      have hl := hlt f.body
      have hbad := hbad hok hf
      have hstep := hok.step hf
      have hat := Fu.at hf
      clear h hev hiw hlt hok hout hf
      simp only [okF] at hbad hstep
      generalize D f.body = d at *
      obtain ⟨fn, fpa, fna, fty, ⟨ko, no, lo⟩, fb⟩ := f
      dsimp only at hof hcall hbad
      generalize fb.eqn = q at *
      obtain ⟨qo, qc, qa⟩ := q
      obtain ⟨kb, nb, tb, nsb, ysb, lb, rsb, pb⟩ := fb
      repeat (first | refine gG ?_ | refine zN1 (fun hlen => ?_) | refine zN2 (fun hlen => ?_) | refine zAl (fun _ => ?_) | refine zBx (fun _ => ?_))
      refine zIx (j) (hj') ?_
      repeat (first | refine gG ?_ | refine zN1 (fun hlen => ?_) | refine zN2 (fun hlen => ?_) | refine zAl (fun _ => ?_) | refine zBx (fun _ => ?_))
      refine zEl (hat) (Fu.ts_len _) ?_
      repeat (first | refine gG ?_ | refine zN1 (fun hlen => ?_) | refine zN2 (fun hlen => ?_) | refine zAl (fun _ => ?_) | refine zBx (fun _ => ?_))
      refine ac_draw [1, 1, 1, 1, 1, 1, 1] [0, 1, 2, 3, 4, 5, 6] (by kernel_rfl) (by kernel_rfl) ?_
      refine gW ?_
      apply w_q; (focus exact rfl); (focus exact rfl); focus (intro _; (refine zCall hof ?_; rintro _ rfl); exact det_refl)
      apply w_q; (focus exact rfl); (focus exact rfl); focus (intro _; (refine zCallR [3] hcall (fun _ _ h => h) ?_); exact det_refl)
      apply w_q; (focus exact rfl); (focus exact rfl); focus (intro _; (refine zAndN (b := 47) ?_); exact det_refl)
      refine gW ?_
      refine w_nil ?_
      repeat (first | refine gG ?_ | refine zN1 (fun hlen => ?_) | refine zN2 (fun hlen => ?_) | refine zAl (fun _ => ?_) | refine zBx (fun _ => ?_))
      refine x_cond rfl (fun h => ?_) (fun h => ?_)
      · have hb := hbad (fun e => by rw [e] at h; simp at h)
        rw [hb]
        clear h hbad hstep hcall
        repeat (first | refine gG ?_ | refine zN1 (fun hlen => ?_) | refine zN2 (fun hlen => ?_) | refine zAl (fun _ => ?_) | refine zBx (fun _ => ?_))
        refine ac_draw [1, 1, 1, 1, 1] [0, 1, 2, 3, 4] (by kernel_rfl) (by kernel_rfl) ?_
        refine gW ?_
        refine w_nil ?_
        repeat (first | refine gG ?_ | refine zN1 (fun hlen => ?_) | refine zN2 (fun hlen => ?_) | refine zAl (fun _ => ?_) | refine zBx (fun _ => ?_))
        first | refine zR (ts := [.lit (.int .i64 15), .lit (.int .i64 pb)]) ?_ | refine zQ (ts := [.lit (.int .i64 15), .lit (.int .i64 pb)]) ?_
        rfl
      · have hn := hstep (Int.ofNat.inj (by simpa using h))
        clear h hbad hstep hcall
        repeat (first | refine gG ?_ | refine zN1 (fun hlen => ?_) | refine zN2 (fun hlen => ?_) | refine zAl (fun _ => ?_) | refine zBx (fun _ => ?_))
        exact ⟨j + 1, ⟨hj', hn⟩, by omega, x_wkd 5 ⟨rfl, trivial⟩ rfl (by repeat (first | exact ag_refl | refine ag_upd rfl ?_ | refine ag_at rfl rfl ?_))⟩
    · have hj' : j = fs.length := by
        have : ¬ j < fs.length := by simpa using h
        omega
      subst hj'
      have hn := hout hok
      clear h hbad hiw hout
      repeat (first | refine gG ?_ | refine zN1 (fun hlen => ?_) | refine zN2 (fun hlen => ?_) | refine zAl (fun _ => ?_) | refine zBx (fun _ => ?_))
      exact ⟨k + 1, ⟨hk', hn⟩, by omega, x_wkd 5 ⟨rfl, trivial⟩ rfl (by repeat (first | exact ag_refl | refine ag_upd rfl ?_ | refine ag_at rfl rfl ?_))⟩
  · have hk' : k = ims.length := by
      have : ¬ k < ims.length := by simpa using h
      omega
    subst hk'
    have hb := hok.all
    rw [hb]
    clear h hfw hok hb
    repeat (first | refine gG ?_ | refine zN1 (fun hlen => ?_) | refine zN2 (fun hlen => ?_) | refine zAl (fun _ => ?_) | refine zBx (fun _ => ?_))
    first | refine zR (ts := [.lit (.int .i64 0), .lit (.int .i64 0)]) ?_ | refine zQ (ts := [.lit (.int .i64 0), .lit (.int .i64 0)]) ?_
    rfl
end Go.Proofs.Ytllgibfmddihgaa
namespace Go.Proofs.Ytllgibfmddihgaa
open Go.RowKit
theorem exs_one (X : List Ex) (a : Ex) : (X ++ [a]).length = X.length + 1 ∧ Ex.all (X ++ [a]) = Ex.all X ++ a.ts := by
  constructor
  · simp
  · rw [Ex.all_app, Ex.all_one]
def bodiesNamed (F : List Fu) (s : ByteArray) : List Ex := (F.filter fun f => decide (f.name = s)).map Fu.body
theorem named_snoc (F : List Fu) (s : ByteArray) {k : Nat} {f : Fu} (h : F[k]? = some f) : bodiesNamed (F.take (k + 1)) s = bodiesNamed (F.take k) s ++ (bif decide (f.name = s) then [f.body] else []) := by
  obtain ⟨h1, rfl⟩ := List.getElem?_eq_some_iff.1 h
  rw [bodiesNamed, List.take_succ_eq_append_getElem h1, List.filter_append, List.map_append, bodiesNamed]
  congr 1
  rw [List.filter_cons, List.filter_nil]
  cases decide (F[k].name = s) <;> rfl
theorem named_le (F : List Fu) (s : ByteArray) (k : Nat) : (bodiesNamed (F.take k) s).length ≤ (bodiesNamed F s).length := by
  have := congrArg (fun l => (bodiesNamed l s).length) (List.take_append_drop k F)
  simp only [bodiesNamed, List.filter_append, List.map_append, List.length_append] at this ⊢
  omega
set_option maxRecDepth 100000 in
set_option maxHeartbeats 8000000 in
theorem led_af (p : Pr) (e : Ex) (hp : p.mass ≤ 1048576) (he : e.mass ≤ 1048576) : AF Try.prog 106 [p.t, e.t] (fun t => ∃ R ns ap, t = Ex.row R ∧ OutL p.funs p.values e R.length R ns ap) := by
  have hcb := bodiesOf_af p (Nat.le_trans p.bodies_le hp)
  have hcf := funsOf_af p (Nat.le_trans p.funs_le hp)
  have hbw : ∀ b ∈ p.bodies, b.walk.length ≤ 1048576 := fun b hb => Nat.le_trans b.walk_le (Nat.le_trans (p.body_mass hb) hp)
  have hlm : ∀ y, Leads p.funs p.values e y → y.walk.length ≤ 1048576 := fun y hy => Nat.le_trans y.walk_le (led_mass he (fun f hf => Nat.le_trans (p.fun_mass hf) hp) (fun v hv => Nat.le_trans (p.value_mass hv) hp) hy)
  have hfl := Nat.le_trans p.funs_le hp
  have hvl := Nat.le_trans p.values_le hp
  have hst := OutL.start p.funs p.values e
  clear hp he
  have hvals : p.values = p.bodies.flatMap vals := vals_eq p
  generalize p.funs = FS at *
  generalize p.values = WS at *
  generalize p.bodies = bl at *
  obtain ⟨nm, vr, us, ds, trs, ims, fus, acs⟩ := p
  obtain ⟨k0, n0, t0, ns0, ys0, l0, rs0, p0⟩ := e
  refine af_enter tok Try.func106 Try.ntmps106 Try.results106 rfl (by kernel_rfl) rfl rfl fun F hX => ?_
  repeat (first | refine gX ?_ | refine zN1 (fun hlen => ?_) | refine zN2 (fun hlen => ?_) | refine zAl (fun _ => ?_) | refine zBf ?_ | refine zAp (fun _ => ?_))
  refine zBo (fun v0 => ?_)
  repeat (first | refine gG ?_ | refine zN1 (fun hlen => ?_) | refine zN2 (fun hlen => ?_) | refine zAl (fun _ => ?_) | refine zBf ?_ | refine zAp (fun _ => ?_))
  refine x_own 6 9 1 rfl rfl rfl rfl rfl ?_
  repeat (first | refine gG ?_ | refine zN1 (fun hlen => ?_) | refine zN2 (fun hlen => ?_) | refine zAl (fun _ => ?_) | refine zBf ?_ | refine zAp (fun _ => ?_))
  refine x_loop [5, 6, 7, 8, 10, 12, 14, 16, 19, 20, 21, 22, 23, 24, 25, 26, 27, 28, 29, 30, 31, 32, 33, 34, 35, 36, 37, 38, 39, 40, 41, 42, 43, 44, 45, 46, 47, 48, 49, 50, 51, 52, 53, 54, 55, 56, 57, 58, 59, 60, 61, 62, 63, 64, 65, 66, 67, 68, 69, 70, 71, 72, 73, 74, 75, 76, 77, 78, 79, 80, 81, 82, 83, 84, 85, 86, 87, 88, 89, 90, 91, 92, 93, 94, 95, 96, 97] (fun y : Nat × (Value × List Ex) × (Value × List ByteArray) × Bool => [(8, .c (.lit (.int .i64 (y.1 : Nat)))), (5, .own 0 y.2.1.1), (6, .own 1 y.2.2.1.1), (7, .c (.lit (.bool y.2.2.2)))]) (fun y => [.row y.2.1.1 84 8 y.2.1.2.length (Ex.all y.2.1.2), .row y.2.2.1.1 9 1 y.2.2.1.2.length (y.2.2.1.2.flatMap strTs)])
    (fun y => OutL FS WS (Ex.mk k0 n0 t0 ns0 ys0 l0 rs0 p0) y.1 y.2.1.2 y.2.2.1.2 y.2.2.2) (fun y => 1 + WS.length + FS.length - y.1) (0, (v0, [Ex.mk k0 n0 t0 ns0 ys0 l0 rs0 p0]), (.slice none 0 0, []), false) hst ⟨rfl, rfl, rfl, rfl, trivial⟩ rfl ?_
  clear hst
  generalize Ex.mk k0 n0 t0 ns0 ys0 l0 rs0 p0 = e at *
  rintro ⟨i, ⟨v, R⟩, ⟨u, ns⟩, ap⟩ hI
  dsimp only at hI ⊢
  repeat (first | refine gG ?_ | refine zN1 (fun hlen => ?_) | refine zN2 (fun hlen => ?_) | refine zAl (fun _ => ?_) | refine zBf ?_ | refine zAp (fun _ => ?_))
  refine x_cond rfl (fun h => ?_) (fun h => ?_)
  · have hi' : i < R.length := by simpa using h
    have hlen := hI.led.le
    obtain ⟨y, hy⟩ := nth hi'
    have hyw := hlm y (hI.led.sound y (List.mem_of_getElem? hy))
    have hwy := all_af y hyw
    have hJ := InL.start hI hy
    have hz : (R.take i).length = i := by rw [List.length_take]; omega
    have hdone := fun R' ns' ap' (h : InL FS WS e (R.take i) y y.walk.length R' ns' ap') => h.done hyw
    rw [hz] at hdone
    have hcl := fun {j R' ns' ap'} (h : InL FS WS e (R.take i) y j R' ns' ap') {x} (hx : y.walk[j]? = some x) => h.call hx
    have hap := fun {j R' ns'} (h : InL FS WS e (R.take i) y j R' ns' false) {x} (hx : y.walk[j]? = some x) => h.apply hx
    have hstay := fun {j R' ns' ap'} (h : InL FS WS e (R.take i) y j R' ns' ap') {x} (hx : y.walk[j]? = some x) => h.stay hx
    have hyat := Ex.at hy
    have hzl : (R.take i).length ≤ 2097153 := by rw [hz]; omega
    clear h hz hI hy
    generalize R.take i = Z at *
    generalize hWK : y.walk = WK at *
    obtain ⟨ky, ny, ty, nsy, ysy, ly, rsy, py⟩ := y
    repeat (first | refine gG ?_ | refine zN1 (fun hlen => ?_) | refine zN2 (fun hlen => ?_) | refine zAl (fun _ => ?_) | refine zBf ?_ | refine zAp (fun _ => ?_))
    refine zIxo i hi' ?_
    repeat (first | refine gG ?_ | refine zN1 (fun hlen => ?_) | refine zN2 (fun hlen => ?_) | refine zAl (fun _ => ?_) | refine zBf ?_ | refine zAp (fun _ => ?_))
    refine zElo hyat (Ex.ts_len _) ?_
    repeat (first | refine gG ?_ | refine zN1 (fun hlen => ?_) | refine zN2 (fun hlen => ?_) | refine zAl (fun _ => ?_) | refine zBf ?_ | refine zAp (fun _ => ?_))
    refine zCall (hwy) ?_
    rintro _ rfl
    clear hwy hyat
    repeat (first | refine gG ?_ | refine zN1 (fun hlen => ?_) | refine zN2 (fun hlen => ?_) | refine zAl (fun _ => ?_) | refine zBf ?_ | refine zAp (fun _ => ?_))
    refine x_loop [5, 6, 7, 10, 12, 14, 16, 31, 32, 33, 34, 35, 36, 37, 38, 39, 40, 41, 42, 43, 44, 45, 46, 47, 48, 49, 50, 51, 52, 53, 54, 55, 56, 57, 58, 59, 60, 61, 62, 63, 64, 65, 66, 67, 68, 69, 70, 71, 72, 73, 74, 75, 76, 77, 78, 79, 80, 81, 82, 83, 84, 85, 86, 87, 88, 89, 90, 91, 92, 93, 94, 95, 96, 97] (fun y : Nat × (Value × List Ex) × (Value × List ByteArray) × Bool => [(31, .c (.lit (.int .i64 (y.1 : Nat)))), (5, .own 0 y.2.1.1), (6, .own 1 y.2.2.1.1), (7, .c (.lit (.bool y.2.2.2)))]) (fun y => [.row y.2.1.1 84 8 y.2.1.2.length (Ex.all y.2.1.2), .row y.2.2.1.1 9 1 y.2.2.1.2.length (y.2.2.1.2.flatMap strTs)])
      (fun q => q.1 ≤ WK.length ∧ InL FS WS e Z (Ex.mk ky ny ty nsy ysy ly rsy py) q.1 q.2.1.2 q.2.2.1.2 q.2.2.2) (fun y => WK.length - y.1) (0, (v, R), (u, ns), ap) ⟨Nat.zero_le _, hJ⟩ ⟨rfl, rfl, rfl, rfl, trivial⟩ rfl ?_
    clear hJ
    rintro ⟨j, ⟨v, R⟩, ⟨u, ns⟩, ap⟩ ⟨hj, hJ⟩
    dsimp only at hj hJ ⊢
    repeat (first | refine gG ?_ | refine zN1 (fun hlen => ?_) | refine zN2 (fun hlen => ?_) | refine zAl (fun _ => ?_) | refine zBf ?_ | refine zAp (fun _ => ?_))
    refine x_cond rfl (fun h => ?_) (fun h => ?_)
    · have hj' : j < WK.length := by simpa using h
      obtain ⟨a, ha⟩ := nth hj'
      have hat := Ex.at ha
      have hco := contains_af ns a.tx
      have hs := fun h => hstay hJ ha h
      have hc := fun h h' => hcl hJ ha h h'
      have hnl : ns.length ≤ 4398046511104 := by
        have h1 := hJ.cnt
        have h2 := hJ.led.le
        omega
      have hst := str_two ns a.tx
      cases d11 : decide (a.kd = 11)
      · cases d9 : decide (a.kd = 9)
        · have hn : InL FS WS e Z (Ex.mk ky ny ty nsy ysy ly rsy py) (j + 1) R ns ap := hs ⟨(fun h => by rw [h] at d9; cases d9), (fun h => by rw [h] at d11; cases d11)⟩
          clear h hs hc hco hJ hap hcl hstay ha
          obtain ⟨ka, na, ta, nsa, ysa, la, rsa, qa⟩ := a
          replace d9 : decide (ka = 9) = false := d9
          replace d11 : decide (ka = 11) = false := d11
          repeat (first | refine gG ?_ | refine zN1 (fun hlen => ?_) | refine zN2 (fun hlen => ?_) | refine zAl (fun _ => ?_) | refine zBf ?_ | refine zAp (fun _ => ?_))
          refine zIx (j) (hj') ?_
          repeat (first | refine gG ?_ | refine zN1 (fun hlen => ?_) | refine zN2 (fun hlen => ?_) | refine zAl (fun _ => ?_) | refine zBx (fun _ => ?_) | refine zAp (fun _ => ?_))
          refine zEl (hat) (Ex.ts_len _) ?_
          repeat (first | refine gG ?_ | refine zN1 (fun hlen => ?_) | refine zN2 (fun hlen => ?_) | refine zAl (fun _ => ?_) | refine zBf ?_ | refine zAp (fun _ => ?_))
          exact ⟨(j + 1, (v, R), (u, ns), ap), ⟨hj', hn⟩, by simp only; omega, x_wkd 2 ⟨rfl, rfl, rfl, rfl, trivial⟩ rfl (by repeat (first | exact ag_refl | refine ag_upd rfl ?_ | refine ag_at rfl rfl ?_))⟩
        · cases dh : hasS ns a.tx
          · have hn := hc (of_decide_eq_true d9) dh
            rw [dh] at hco
            have hle2 := hn.led.le
            rw [List.length_append] at hle2
            change _ + (bodiesNamed FS a.tx).length ≤ _ at hle2
            change InL _ _ _ _ _ _ (_ ++ bodiesNamed FS a.tx) _ _ at hn
            clear h hs hc hJ hap hcl hstay ha dh
            obtain ⟨ka, na, ta, nsa, ysa, la, rsa, qa⟩ := a
            replace d9 : decide (ka = 9) = true := d9
            replace d11 : decide (ka = 11) = false := d11
            simp only [Ex.tx] at hco hst hn hle2
            repeat (first | refine gG ?_ | refine zN1 (fun hlen => ?_) | refine zN2 (fun hlen => ?_) | refine zAl (fun _ => ?_) | refine zBf ?_ | refine zAp (fun _ => ?_))
            refine zIx (j) (hj') ?_
            repeat (first | refine gG ?_ | refine zN1 (fun hlen => ?_) | refine zN2 (fun hlen => ?_) | refine zAl (fun _ => ?_) | refine zBx (fun _ => ?_) | refine zAp (fun _ => ?_))
            refine zEl (hat) (Ex.ts_len _) ?_
            repeat (first | refine gG ?_ | refine zN1 (fun hlen => ?_) | refine zN2 (fun hlen => ?_) | refine zAl (fun _ => ?_) | refine zBf ?_ | refine zAp (fun _ => ?_))
            refine zPeek (hco) ?_
            rintro _ rfl
            refine ⟨rfl, ?_⟩
            repeat (first | refine gG ?_ | refine zN1 (fun hlen => ?_) | refine zN2 (fun hlen => ?_) | refine zAl (fun _ => ?_) | refine zBf ?_ | refine zAp (fun _ => ?_))
            refine zCall (hcf) ?_
            rintro _ rfl
            repeat (first | refine gG ?_ | refine zN1 (fun hlen => ?_) | refine zN2 (fun hlen => ?_) | refine zAl (fun _ => ?_) | refine zBf ?_ | refine zAp (fun _ => ?_))
            rename_i b10 u1
            refine x_loop [5, 16, 82, 83, 84, 85, 86, 87, 88, 89, 90, 91, 92, 93, 94, 95, 96] (fun y : Nat × Value => [(82, .c (.lit (.int .i64 (y.1 : Nat)))), (5, .own 0 y.2)]) (fun y => [.row y.2 84 8 (R ++ bodiesNamed (FS.take y.1) ta).length (Ex.all (R ++ bodiesNamed (FS.take y.1) ta)), .row u1 9 1 (ns ++ [ta]).length ((ns ++ [ta]).flatMap strTs), .box b10 84 [.c (.lit (.int .i64 ka)), .c (.lit (.int .i64 na)), .c (.lit (.string ta)), .c (strRow nsa), .c (Y.row ysa), .c (.row la.length 8 (Ex.all la)), .c (.row rsa.length 12 (Ar.all rsa)), .c (.lit (.int .i64 qa))]])
              (fun y => y.1 ≤ FS.length) (fun y => FS.length - y.1) (0, v) (Nat.zero_le _) ⟨rfl, rfl, trivial⟩ (by first | (simp only [List.take_zero, bodiesNamed, List.filter_nil, List.map_nil, List.append_nil, hst.1, hst.2]; rfl) | rfl) ?_
            rintro ⟨k, w⟩ hk
            dsimp only at hk ⊢
            repeat (first | refine gG ?_ | refine zN1 (fun hlen => ?_) | refine zN2 (fun hlen => ?_) | refine zAl (fun _ => ?_) | refine zBf ?_ | refine zAp (fun _ => ?_))
            refine x_cond rfl (fun h => ?_) (fun h => ?_)
            · have hk' : k < FS.length := by simpa using h
              obtain ⟨f, hf⟩ := nth hk'
              have hsn := named_snoc FS ta hf
              have hle3 := named_le FS ta (k + 1)
              have hfat := Fu.at hf
              have hone := exs_one (R ++ bodiesNamed (FS.take k) ta) f.body
              rw [hsn, List.length_append] at hle3
              clear h hf
              cases dn : decide (f.name = ta)
              · rw [dn, cond_false, List.append_nil] at hsn
                obtain ⟨fn, fpa, fna, fty, ⟨ko, no, lo⟩, ⟨kb, nb, tb, nsb, ysb, lb, rsb, pb⟩⟩ := f
                replace dn : decide (fn = ta) = false := dn
                repeat (first | refine gG ?_ | refine zN1 (fun hlen => ?_) | refine zN2 (fun hlen => ?_) | refine zAl (fun _ => ?_) | refine zBf ?_ | refine zAp (fun _ => ?_))
                refine zIx (k) (hk') ?_
                repeat (first | refine gG ?_ | refine zN1 (fun hlen => ?_) | refine zN2 (fun hlen => ?_) | refine zAl (fun _ => ?_) | refine zBx (fun _ => ?_) | refine zAp (fun _ => ?_))
                refine zEl (hfat) (Fu.ts_len _) ?_
                repeat (first | refine gG ?_ | refine zN1 (fun hlen => ?_) | refine zN2 (fun hlen => ?_) | refine zAl (fun _ => ?_) | refine zBf ?_ | refine zAp (fun _ => ?_))
                exact ⟨(k + 1, w), hk', by simp only; omega, x_wkd 3 ⟨rfl, rfl, trivial⟩ (by dsimp only; rw [hsn]; rfl) (by repeat (first | exact ag_refl | refine ag_upd rfl ?_ | refine ag_at rfl rfl ?_))⟩
              · rw [dn, cond_true] at hsn hle3
                rw [List.append_assoc, ← hsn] at hone
                have hbd : (R ++ bodiesNamed (FS.take k) ta).length ≤ 2097153 := by
                  rw [List.length_append]
                  simp only [List.length_cons, List.length_nil] at hle3
                  omega
                generalize (R ++ bodiesNamed (FS.take k) ta) = A at *
                generalize hA' : (R ++ bodiesNamed (FS.take (k + 1)) ta) = A' at *
                obtain ⟨fn, fpa, fna, fty, ⟨ko, no, lo⟩, ⟨kb, nb, tb, nsb, ysb, lb, rsb, pb⟩⟩ := f
                replace dn : decide (fn = ta) = true := dn
                dsimp only at hone
                repeat (first | refine gG ?_ | refine zN1 (fun hlen => ?_) | refine zN2 (fun hlen => ?_) | refine zAl (fun _ => ?_) | refine zBf ?_ | refine zAp (fun _ => ?_))
                refine zIx (k) (hk') ?_
                repeat (first | refine gG ?_ | refine zN1 (fun hlen => ?_) | refine zN2 (fun hlen => ?_) | refine zAl (fun _ => ?_) | refine zBx (fun _ => ?_) | refine zAp (fun _ => ?_))
                refine zEl (hfat) (Fu.ts_len _) ?_
                repeat (first | refine gG ?_ | refine zN1 (fun hlen => ?_) | refine zN2 (fun hlen => ?_) | refine zAl (fun _ => ?_) | refine zBf ?_ | refine zAp (fun _ => ?_))
                exact ⟨(k + 1, _), hk', by simp only; omega, x_wkd 3 ⟨rfl, rfl, trivial⟩ (by dsimp only; rw [hA', hone.1, hone.2]; rfl) (by repeat (first | exact ag_refl | refine ag_upd rfl ?_ | refine ag_at rfl rfl ?_))⟩
            · have hk' : k = FS.length := by
                have : ¬ k < FS.length := by simpa using h
                omega
              subst hk'
              clear h
              rw [List.take_length]
              repeat (first | refine gG ?_ | refine zN1 (fun hlen => ?_) | refine zN2 (fun hlen => ?_) | refine zAl (fun _ => ?_) | refine zBf ?_ | refine zAp (fun _ => ?_))
              exact ⟨(j + 1, (w, R ++ bodiesNamed FS ta), (u1, ns ++ [ta]), ap), ⟨hj', hn⟩, by simp only; omega, x_wkd 2 ⟨rfl, rfl, rfl, rfl, trivial⟩ rfl (by repeat (first | exact ag_refl | refine ag_upd rfl ?_ | refine ag_at rfl rfl ?_))⟩
          · have hn : InL FS WS e Z (Ex.mk ky ny ty nsy ysy ly rsy py) (j + 1) R ns ap := hs ⟨fun _ => seen_has dh, fun h => by rw [h] at d11; cases d11⟩
            rw [dh] at hco
            clear h hs hc hJ hap hcl hstay ha dh
            obtain ⟨ka, na, ta, nsa, ysa, la, rsa, qa⟩ := a
            replace d9 : decide (ka = 9) = true := d9
            replace d11 : decide (ka = 11) = false := d11
            simp only [Ex.tx] at hco
            repeat (first | refine gG ?_ | refine zN1 (fun hlen => ?_) | refine zN2 (fun hlen => ?_) | refine zAl (fun _ => ?_) | refine zBf ?_ | refine zAp (fun _ => ?_))
            refine zIx (j) (hj') ?_
            repeat (first | refine gG ?_ | refine zN1 (fun hlen => ?_) | refine zN2 (fun hlen => ?_) | refine zAl (fun _ => ?_) | refine zBx (fun _ => ?_) | refine zAp (fun _ => ?_))
            refine zEl (hat) (Ex.ts_len _) ?_
            repeat (first | refine gG ?_ | refine zN1 (fun hlen => ?_) | refine zN2 (fun hlen => ?_) | refine zAl (fun _ => ?_) | refine zBf ?_ | refine zAp (fun _ => ?_))
            refine zPeek (hco) ?_
            rintro _ rfl
            refine ⟨rfl, ?_⟩
            repeat (first | refine gG ?_ | refine zN1 (fun hlen => ?_) | refine zN2 (fun hlen => ?_) | refine zAl (fun _ => ?_) | refine zBf ?_ | refine zAp (fun _ => ?_))
            exact ⟨(j + 1, (v, R), (u, ns), ap), ⟨hj', hn⟩, by simp only; omega, x_wkd 2 ⟨rfl, rfl, rfl, rfl, trivial⟩ rfl (by repeat (first | exact ag_refl | refine ag_upd rfl ?_ | refine ag_at rfl rfl ?_))⟩
      · have hk11 := of_decide_eq_true d11
        have d9 : decide (a.kd = 9) = false := by rw [hk11]; rfl
        cases ap
        · have hn := hap hJ ha hk11
          have hle2 := hn.led.le
          rw [List.length_append] at hle2
          clear h hs hc hJ hap hcl hstay ha hco hk11
          obtain ⟨ka, na, ta, nsa, ysa, la, rsa, qa⟩ := a
          replace d9 : decide (ka = 9) = false := d9
          replace d11 : decide (ka = 11) = true := d11
          repeat (first | refine gG ?_ | refine zN1 (fun hlen => ?_) | refine zN2 (fun hlen => ?_) | refine zAl (fun _ => ?_) | refine zBf ?_ | refine zAp (fun _ => ?_))
          refine zIx (j) (hj') ?_
          repeat (first | refine gG ?_ | refine zN1 (fun hlen => ?_) | refine zN2 (fun hlen => ?_) | refine zAl (fun _ => ?_) | refine zBx (fun _ => ?_) | refine zAp (fun _ => ?_))
          refine zEl (hat) (Ex.ts_len _) ?_
          repeat (first | refine gG ?_ | refine zN1 (fun hlen => ?_) | refine zN2 (fun hlen => ?_) | refine zAl (fun _ => ?_) | refine zBf ?_ | refine zAp (fun _ => ?_))
          refine zCall (hcb) ?_
          rintro _ rfl
          repeat (first | refine gG ?_ | refine zN1 (fun hlen => ?_) | refine zN2 (fun hlen => ?_) | refine zAl (fun _ => ?_) | refine zBf ?_ | refine zAp (fun _ => ?_))
          rename_i b10
          refine x_loop [5, 12, 14, 45, 46, 47, 48, 49, 50, 51, 52, 53, 54, 55, 56, 57, 58, 59, 60, 61, 62, 63, 64] (fun y : Nat × Value => [(45, .c (.lit (.int .i64 (y.1 : Nat)))), (5, .own 0 y.2)]) (fun y => [.row y.2 84 8 (R ++ (bl.take y.1).flatMap vals).length (Ex.all (R ++ (bl.take y.1).flatMap vals)), .row u 9 1 ns.length (ns.flatMap strTs), .box b10 84 [.c (.lit (.int .i64 ka)), .c (.lit (.int .i64 na)), .c (.lit (.string ta)), .c (strRow nsa), .c (Y.row ysa), .c (.row la.length 8 (Ex.all la)), .c (.row rsa.length 12 (Ar.all rsa)), .c (.lit (.int .i64 qa))]])
            (fun y => y.1 ≤ bl.length) (fun y => bl.length - y.1) (0, v) (Nat.zero_le _) ⟨rfl, rfl, trivial⟩ (by first | (simp only [List.take_zero, List.flatMap_nil, List.append_nil]; done) | (simp only [List.take_zero, List.flatMap_nil, List.append_nil]; rfl)) ?_
          rintro ⟨k, w⟩ hk
          dsimp only at hk ⊢
          repeat (first | refine gG ?_ | refine zN1 (fun hlen => ?_) | refine zN2 (fun hlen => ?_) | refine zAl (fun _ => ?_) | refine zBf ?_ | refine zAp (fun _ => ?_))
          refine x_cond rfl (fun h => ?_) (fun h => ?_)
          · have hk' : k < bl.length := by simpa using h
            obtain ⟨b, hb⟩ := nth hk'
            have hwb := all_af b (hbw b (List.mem_of_getElem? hb))
            have hsn := flat_snoc' vals hb
            have hle3 := flatl_le vals bl (k + 1)
            rw [hsn, ← hvals] at hle3
            have hbat := Ex.at hb
            clear h hb
            rw [show vals b = b.walk.filter isFun from rfl] at hsn hle3
            have hsn' : R ++ (bl.take (k + 1)).flatMap vals = (R ++ (bl.take k).flatMap vals) ++ b.walk.filter isFun := by rw [hsn, List.append_assoc]
            have hA1 : (R ++ (bl.take k).flatMap vals).length + (b.walk.filter isFun).length ≤ 2097153 := by
              rw [List.length_append] at hle3 ⊢
              omega
            clear hsn hle3
            generalize (R ++ (bl.take k).flatMap vals) = A at *
            generalize b.walk = WB at *
            obtain ⟨kb, nb, tb, nsb, ysb, lb, rsb, pb⟩ := b
            repeat (first | refine gG ?_ | refine zN1 (fun hlen => ?_) | refine zN2 (fun hlen => ?_) | refine zAl (fun _ => ?_) | refine zBf ?_ | refine zAp (fun _ => ?_))
            refine zIx (k) (hk') ?_
            repeat (first | refine gG ?_ | refine zN1 (fun hlen => ?_) | refine zN2 (fun hlen => ?_) | refine zAl (fun _ => ?_) | refine zBx (fun _ => ?_) | refine zAp (fun _ => ?_))
            refine zEl (hbat) (Ex.ts_len _) ?_
            repeat (first | refine gG ?_ | refine zN1 (fun hlen => ?_) | refine zN2 (fun hlen => ?_) | refine zAl (fun _ => ?_) | refine zBf ?_ | refine zAp (fun _ => ?_))
            refine zCall (hwb) ?_
            rintro _ rfl
            clear hwb
            repeat (first | refine gG ?_ | refine zN1 (fun hlen => ?_) | refine zN2 (fun hlen => ?_) | refine zAl (fun _ => ?_) | refine zBf ?_ | refine zAp (fun _ => ?_))
            refine x_drop 3 rfl ?_
            refine x_loop [5, 14, 52, 53, 54, 55, 56, 57, 58, 59, 60, 61, 62, 63] (fun y : Nat × Value => [(52, .c (.lit (.int .i64 (y.1 : Nat)))), (5, .own 0 y.2)]) (fun y => [.row y.2 84 8 (A ++ (WB.take y.1).filter isFun).length (Ex.all (A ++ (WB.take y.1).filter isFun)), .row u 9 1 ns.length (ns.flatMap strTs), .box b10 84 [.c (.lit (.int .i64 ka)), .c (.lit (.int .i64 na)), .c (.lit (.string ta)), .c (strRow nsa), .c (Y.row ysa), .c (.row la.length 8 (Ex.all la)), .c (.row rsa.length 12 (Ar.all rsa)), .c (.lit (.int .i64 qa))]])
              (fun y => y.1 ≤ WB.length) (fun y => WB.length - y.1) (0, w) (Nat.zero_le _) ⟨rfl, rfl, trivial⟩ (by first | (simp only [List.take_zero, List.filter_nil, List.append_nil]; done) | (simp only [List.take_zero, List.filter_nil, List.append_nil]; rfl)) ?_
            rintro ⟨m, x⟩ hm
            dsimp only at hm ⊢
            repeat (first | refine gG ?_ | refine zN1 (fun hlen => ?_) | refine zN2 (fun hlen => ?_) | refine zAl (fun _ => ?_) | refine zBf ?_ | refine zAp (fun _ => ?_))
            refine x_cond rfl (fun h => ?_) (fun h => ?_)
            · have hm' : m < WB.length := by simpa using h
              obtain ⟨c, hc⟩ := nth hm'
              have hlj := filt_le isFun WB (m + 1)
              have hsj := filt_snoc isFun hc
              rw [hsj] at hlj
              have hcat := Ex.at hc
              have hone := exs_one (A ++ (WB.take m).filter isFun) c
              clear h hc
              have hkd : isFun c = decide (c.kd = 10) := rfl
              cases d1 : decide (c.kd = 10)
              · rw [hkd, d1, cond_false, List.append_nil] at hsj
                obtain ⟨kc, nc, tc, nsc, ysc, lc, rsc, pc⟩ := c
                replace d1 : decide (kc = 10) = false := d1
                repeat (first | refine gG ?_ | refine zN1 (fun hlen => ?_) | refine zN2 (fun hlen => ?_) | refine zAl (fun _ => ?_) | refine zBf ?_ | refine zAp (fun _ => ?_))
                refine zIx (m) (hm') ?_
                repeat (first | refine gG ?_ | refine zN1 (fun hlen => ?_) | refine zN2 (fun hlen => ?_) | refine zAl (fun _ => ?_) | refine zBx (fun _ => ?_) | refine zAp (fun _ => ?_))
                refine zEl (hcat) (Ex.ts_len _) ?_
                repeat (first | refine gG ?_ | refine zN1 (fun hlen => ?_) | refine zN2 (fun hlen => ?_) | refine zAl (fun _ => ?_) | refine zBf ?_ | refine zAp (fun _ => ?_))
                exact ⟨(m + 1, x), hm', by simp only; omega, x_wkd 3 ⟨rfl, rfl, trivial⟩ (by dsimp only; rw [hsj]; rfl) (by repeat (first | exact ag_refl | refine ag_upd rfl ?_ | refine ag_at rfl rfl ?_))⟩
              · rw [hkd, d1, cond_true] at hsj hlj
                rw [List.append_assoc, ← hsj] at hone
                have hbd : (A ++ (WB.take m).filter isFun).length + 1 ≤ 2097153 := by
                  rw [List.length_append] at hlj ⊢
                  simp only [List.length_cons, List.length_nil] at hlj
                  omega
                clear hsj hlj hkd
                generalize (A ++ (WB.take m).filter isFun) = AA at *
                generalize hAA' : (A ++ (WB.take (m + 1)).filter isFun) = AA' at *
                obtain ⟨kc, nc, tc, nsc, ysc, lc, rsc, pc⟩ := c
                replace d1 : decide (kc = 10) = true := d1
                repeat (first | refine gG ?_ | refine zN1 (fun hlen => ?_) | refine zN2 (fun hlen => ?_) | refine zAl (fun _ => ?_) | refine zBf ?_ | refine zAp (fun _ => ?_))
                refine zIx (m) (hm') ?_
                repeat (first | refine gG ?_ | refine zN1 (fun hlen => ?_) | refine zN2 (fun hlen => ?_) | refine zAl (fun _ => ?_) | refine zBx (fun _ => ?_) | refine zAp (fun _ => ?_))
                refine zEl (hcat) (Ex.ts_len _) ?_
                repeat (first | refine gG ?_ | refine zN1 (fun hlen => ?_) | refine zN2 (fun hlen => ?_) | refine zAl (fun _ => ?_) | refine zBf ?_ | refine zAp (fun _ => ?_))
                exact ⟨(m + 1, _), hm', by simp only; omega, x_wkd 3 ⟨rfl, rfl, trivial⟩ (by dsimp only; rw [hAA', hone.1, hone.2]; rfl) (by repeat (first | exact ag_refl | refine ag_upd rfl ?_ | refine ag_at rfl rfl ?_))⟩
            · have hm' : m = WB.length := by
                have : ¬ m < WB.length := by simpa using h
                omega
              subst hm'
              clear h
              rw [List.take_length]
              repeat (first | refine gG ?_ | refine zN1 (fun hlen => ?_) | refine zN2 (fun hlen => ?_) | refine zAl (fun _ => ?_) | refine zBf ?_ | refine zAp (fun _ => ?_))
              exact ⟨(k + 1, x), hk', by simp only; omega, x_wkd 3 ⟨rfl, rfl, trivial⟩ (by dsimp only; rw [hsn']; rfl) (by repeat (first | exact ag_refl | refine ag_upd rfl ?_ | refine ag_at rfl rfl ?_))⟩
          · have hk' : k = bl.length := by
              have : ¬ k < bl.length := by simpa using h
              omega
            subst hk'
            clear h
            rw [List.take_length, ← hvals]
            repeat (first | refine gG ?_ | refine zN1 (fun hlen => ?_) | refine zN2 (fun hlen => ?_) | refine zAl (fun _ => ?_) | refine zBf ?_ | refine zAp (fun _ => ?_))
            exact ⟨(j + 1, (w, R ++ WS), (u, ns), true), ⟨hj', hn⟩, by simp only; omega, x_wkd 2 ⟨rfl, rfl, rfl, rfl, trivial⟩ rfl (by repeat (first | exact ag_refl | refine ag_upd rfl ?_ | refine ag_at rfl rfl ?_))⟩
        · have hn : InL FS WS e Z (Ex.mk ky ny ty nsy ysy ly rsy py) (j + 1) R ns true := hs ⟨(fun h => by rw [h] at d9; cases d9), fun _ => rfl⟩
          clear h hs hc hJ hap hcl hstay ha hco hk11
          obtain ⟨ka, na, ta, nsa, ysa, la, rsa, qa⟩ := a
          replace d9 : decide (ka = 9) = false := d9
          replace d11 : decide (ka = 11) = true := d11
          repeat (first | refine gG ?_ | refine zN1 (fun hlen => ?_) | refine zN2 (fun hlen => ?_) | refine zAl (fun _ => ?_) | refine zBf ?_ | refine zAp (fun _ => ?_))
          refine zIx (j) (hj') ?_
          repeat (first | refine gG ?_ | refine zN1 (fun hlen => ?_) | refine zN2 (fun hlen => ?_) | refine zAl (fun _ => ?_) | refine zBx (fun _ => ?_) | refine zAp (fun _ => ?_))
          refine zEl (hat) (Ex.ts_len _) ?_
          repeat (first | refine gG ?_ | refine zN1 (fun hlen => ?_) | refine zN2 (fun hlen => ?_) | refine zAl (fun _ => ?_) | refine zBf ?_ | refine zAp (fun _ => ?_))
          exact ⟨(j + 1, (v, R), (u, ns), true), ⟨hj', hn⟩, by simp only; omega, x_wkd 2 ⟨rfl, rfl, rfl, rfl, trivial⟩ rfl (by repeat (first | exact ag_refl | refine ag_upd rfl ?_ | refine ag_at rfl rfl ?_))⟩
    · have hj' : j = WK.length := by
        have : ¬ j < WK.length := by simpa using h
        omega
      subst hj'
      have hn := hdone R ns ap hJ
      have hlen := hn.led.le
      have hle := hn.le
      clear h hJ hdone hap hcl hstay
      repeat (first | refine gG ?_ | refine zN1 (fun hlen => ?_) | refine zN2 (fun hlen => ?_) | refine zAl (fun _ => ?_) | refine zBf ?_ | refine zAp (fun _ => ?_))
      exact ⟨(i + 1, (v, R), (u, ns), ap), hn, by simp only; omega, x_wkd 2 ⟨rfl, rfl, rfl, rfl, trivial⟩ rfl (by repeat (first | exact ag_refl | refine ag_upd rfl ?_ | refine ag_at rfl rfl ?_))⟩
  · have hi' : i = R.length := by
      have h1 : ¬ i < R.length := by simpa using h
      have h2 := hI.le
      omega
    subst hi'
    clear h
    repeat (first | refine gG ?_ | refine zN1 (fun hlen => ?_) | refine zN2 (fun hlen => ?_) | refine zAl (fun _ => ?_) | refine zBf ?_ | refine zAp (fun _ => ?_))
    first | refine zR ?_ | refine zQ ?_
    exact ⟨R, ns, ap, rfl, hI⟩
end Go.Proofs.Ytllgibfmddihgaa
namespace Go.Proofs.Ytllgibfmddihgaa
open Go.RowKit
theorem orm_snoc {α : Type} (g : α → Nat) (W : List α) {k : Nat} {a : α} (h : W[k]? = some a) : orL ((W.take (k + 1)).map g) = orL ((W.take k).map g) ||| g a := by
  obtain ⟨h1, rfl⟩ := List.getElem?_eq_some_iff.1 h
  rw [List.take_succ_eq_append_getElem h1, List.map_append, List.map_cons, List.map_nil, orL_snoc]
theorem orm_lt {α : Type} (g : α → Nat) (hg : ∀ a, g a < 128) (l : List α) : orL (l.map g) < 128 := orL_lt _ fun a ha => by
  obtain ⟨x, _, rfl⟩ := List.mem_map.1 ha
  exact hg x
theorem orL_app (a b : List Nat) : orL (a ++ b) = orL a ||| orL b := by
  have h1 := foldl_or b (List.foldl (fun a b => a ||| b) 0 a)
  rw [orL, List.foldl_append, h1]
  rfl
set_option maxRecDepth 100000 in
set_option maxHeartbeats 4000000 in
theorem doesOf_af (p : Pr) (e : Ex) (hp : p.mass ≤ 1048576) (he : e.mass ≤ 1048576) (D : Ex → Nat) (hD : DoOk p.funs p.values D) : AF Try.prog 60 [p.t, e.t] (· = .lit (.int .i64 (D e : Nat))) := by
  have hl := led_af p e hp he
  have hlm : ∀ y, Leads p.funs p.values e y → y.walk.length ≤ 1048576 := fun y hy => Nat.le_trans y.walk_le (led_mass he (fun f hf => Nat.le_trans (p.fun_mass hf) hp) (fun v hv => Nat.le_trans (p.value_mass hv) hp) hy)
  have hdo := fun R ns ap (h : OutL p.funs p.values e R.length R ns ap) => h.does hD
  generalize D e = de at *
  generalize p.funs = FS at *
  generalize p.values = WS at *
  clear hD hp he
  have hlm2 := fun R ns ap (h : OutL FS WS e R.length R ns ap) y (hy : y ∈ R) => hlm y (h.led.sound y hy)
  obtain ⟨nm, vr, us, ds, trs, ims, fus, acs⟩ := p
  obtain ⟨kb, nb, tb, nsb, ysb, lb, rsb, pb⟩ := e
  refine af_enter tok Try.func60 Try.ntmps60 Try.results60 rfl (by kernel_rfl) rfl rfl fun F hX => ?_
  repeat (first | refine gG ?_ | refine zN1 (fun hlen => ?_) | refine zN2 (fun hlen => ?_) | refine zAl (fun _ => ?_) | refine zBf ?_)
  refine zCall (hl) ?_
  rintro _ ⟨R, ns, ap, rfl, hR⟩
  replace hlm2 := hlm2 R ns ap hR
  replace hdo := hdo R ns ap hR
  rw [← hdo]
  clear hl hdo hlm hR
  repeat (first | refine gG ?_ | refine zN1 (fun hlen => ?_) | refine zN2 (fun hlen => ?_) | refine zAl (fun _ => ?_) | refine zBf ?_)
  refine x_loop [5, 7, 12, 13, 14, 15, 16, 17, 18, 19, 20] (fun k : Nat => [(12, .c (.lit (.int .i64 (k : Nat)))), (5, .c (.lit (.int .i64 (orL ((R.take k).map Ex.own) : Nat))))]) (fun _ => []) (fun k => k ≤ R.length) (fun k => R.length - k) 0 (Nat.zero_le _) ⟨rfl, rfl, trivial⟩ rfl ?_
  rintro k hk
  repeat (first | refine gG ?_ | refine zN1 (fun hlen => ?_) | refine zN2 (fun hlen => ?_) | refine zAl (fun _ => ?_) | refine zBf ?_)
  refine x_cond rfl (fun h => ?_) (fun h => ?_)
  · have hk' : k < R.length := by simpa using h
    obtain ⟨a, ha⟩ := nth hk'
    have hat := Ex.at ha
    have hsn := orm_snoc Ex.own R ha
    have hlt := orm_lt Ex.own Ex.own_lt (R.take k)
    have hla := a.own_lt
    have hsg := ownOf_af a (hlm2 a (List.mem_of_getElem? ha))
    clear h ha hlm2
    generalize orL ((R.take k).map Ex.own) = o at *
    generalize a.own = x at *
    obtain ⟨ka, na, ta, nsa, ysa, la, rsa, qa⟩ := a
    repeat (first | refine gG ?_ | refine zN1 (fun hlen => ?_) | refine zN2 (fun hlen => ?_) | refine zAl (fun _ => ?_) | refine zBf ?_)
    refine zIx (k) (hk') ?_
    repeat (first | refine gG ?_ | refine zN1 (fun hlen => ?_) | refine zN2 (fun hlen => ?_) | refine zAl (fun _ => ?_) | refine zBx (fun _ => ?_))
    refine zEl (hat) (Ex.ts_len _) ?_
    repeat (first | refine gG ?_ | refine zN1 (fun hlen => ?_) | refine zN2 (fun hlen => ?_) | refine zAl (fun _ => ?_) | refine zBf ?_)
    refine zCall (hsg) ?_
    rintro _ rfl
    repeat (first | refine gG ?_ | refine zN1 (fun hlen => ?_) | refine zN2 (fun hlen => ?_) | refine zAl (fun _ => ?_) | refine zBf ?_)
    refine zOrN ?_
    repeat (first | refine gG ?_ | refine zN1 (fun hlen => ?_) | refine zN2 (fun hlen => ?_) | refine zAl (fun _ => ?_) | refine zBf ?_)
    exact ⟨k + 1, hk', by omega, x_wkd 0 ⟨rfl, congrArg (fun n : Nat => AV.c (.lit (.int .i64 (n : Int)))) hsn.symm, trivial⟩ rfl (by repeat (first | exact ag_refl | refine ag_upd rfl ?_ | refine ag_at rfl rfl ?_))⟩
  · have hk' : k = R.length := by
      have : ¬ k < R.length := by simpa using h
      omega
    subst hk'
    clear h
    rw [List.take_length]
    repeat (first | refine gG ?_ | refine zN1 (fun hlen => ?_) | refine zN2 (fun hlen => ?_) | refine zAl (fun _ => ?_) | refine zBf ?_)
    first | refine zR ?_ | refine zQ ?_
    rfl
set_option maxRecDepth 100000 in
set_option maxHeartbeats 4000000 in
theorem anyOf_af (p : Pr) (hp : p.mass ≤ 1048576) (D : Ex → Nat) (hD : DoOk p.funs p.values D) : AF Try.prog 58 [p.t] (· = .lit (.int .i64 (orL (p.values.map D) : Nat))) := by
  have hcb := bodiesOf_af p (Nat.le_trans p.bodies_le hp)
  have hbw : ∀ b ∈ p.bodies, b.walk.length ≤ 1048576 := fun b hb => Nat.le_trans b.walk_le (Nat.le_trans (p.body_mass hb) hp)
  have hcd : ∀ b ∈ p.bodies, ∀ v ∈ b.walk, AF Try.prog 60 [p.t, v.t] (· = .lit (.int .i64 (D v : Nat))) := fun b hb v hv => doesOf_af p v hp (Nat.le_trans (walkMass b v hv) (Nat.le_trans (p.body_mass hb) hp)) D hD
  have hlt := fun e => (hD e).1
  clear hD
  rw [vals_eq]
  generalize p.bodies = bl at *
  obtain ⟨nm, vr, us, ds, trs, ims, fus, acs⟩ := p
  refine af_enter tok Try.func58 Try.ntmps58 Try.results58 rfl (by kernel_rfl) rfl rfl fun F hX => ?_
  repeat (first | refine gG ?_ | refine zN1 (fun hlen => ?_) | refine zN2 (fun hlen => ?_) | refine zAl (fun _ => ?_) | refine zBf ?_)
  refine zCall (hcb) ?_
  rintro _ rfl
  clear hcb
  repeat (first | refine gG ?_ | refine zN1 (fun hlen => ?_) | refine zN2 (fun hlen => ?_) | refine zAl (fun _ => ?_) | refine zBf ?_)
  refine x_loop [3, 5, 7, 11, 12, 13, 14, 15, 16, 17, 18, 19, 20, 21, 22, 23, 24, 25, 26, 27, 28, 29, 30, 31] (fun k : Nat => [(11, .c (.lit (.int .i64 (k : Nat)))), (3, .c (.lit (.int .i64 (orL (((bl.take k).flatMap vals).map D) : Nat))))]) (fun _ => []) (fun k => k ≤ bl.length) (fun k => bl.length - k) 0 (Nat.zero_le _) ⟨rfl, rfl, trivial⟩ rfl ?_
  rintro k hk
  repeat (first | refine gG ?_ | refine zN1 (fun hlen => ?_) | refine zN2 (fun hlen => ?_) | refine zAl (fun _ => ?_) | refine zBf ?_)
  refine x_cond rfl (fun h => ?_) (fun h => ?_)
  · have hk' : k < bl.length := by simpa using h
    obtain ⟨b, hb⟩ := nth hk'
    have hwb := all_af b (hbw b (List.mem_of_getElem? hb))
    have hcd := hcd b (List.mem_of_getElem? hb)
    have hat := Ex.at hb
    have hsn : orL (((bl.take (k + 1)).flatMap vals).map D) = orL (((bl.take k).flatMap vals).map D) ||| orL ((b.walk.filter isFun).map D) := by rw [flat_snoc' vals hb, List.map_append, orL_app]; rfl
    have hlA := orm_lt D hlt ((bl.take k).flatMap vals)
    clear h hb hbw
    generalize orL (((bl.take k).flatMap vals).map D) = o at *
    generalize hO' : orL (((bl.take (k + 1)).flatMap vals).map D) = o' at *
    generalize b.walk = WB at *
    obtain ⟨kb, nb, tb, nsb, ysb, lb, rsb, pb⟩ := b
    repeat (first | refine gG ?_ | refine zN1 (fun hlen => ?_) | refine zN2 (fun hlen => ?_) | refine zAl (fun _ => ?_) | refine zBf ?_)
    refine zIx (k) (hk') ?_
    repeat (first | refine gG ?_ | refine zN1 (fun hlen => ?_) | refine zN2 (fun hlen => ?_) | refine zAl (fun _ => ?_) | refine zBx (fun _ => ?_))
    refine zEl (hat) (Ex.ts_len _) ?_
    repeat (first | refine gG ?_ | refine zN1 (fun hlen => ?_) | refine zN2 (fun hlen => ?_) | refine zAl (fun _ => ?_) | refine zBf ?_)
    refine zCall (hwb) ?_
    rintro _ rfl
    clear hwb
    repeat (first | refine gG ?_ | refine zN1 (fun hlen => ?_) | refine zN2 (fun hlen => ?_) | refine zAl (fun _ => ?_) | refine zBf ?_)
    refine x_drop 0 rfl ?_
    refine x_loop [3, 7, 18, 19, 20, 21, 22, 23, 24, 25, 26, 27, 28, 29, 30] (fun j : Nat => [(18, .c (.lit (.int .i64 (j : Nat)))), (3, .c (.lit (.int .i64 ((o ||| orL (((WB.take j).filter isFun).map D) : Nat) : Int))))]) (fun _ => []) (fun j => j ≤ WB.length) (fun j => WB.length - j) 0 (Nat.zero_le _) ⟨rfl, by rw [List.take_zero, List.filter_nil, List.map_nil, show orL [] = 0 from rfl, Nat.or_zero]; rfl, trivial⟩ rfl ?_
    rintro j hj
    repeat (first | refine gG ?_ | refine zN1 (fun hlen => ?_) | refine zN2 (fun hlen => ?_) | refine zAl (fun _ => ?_) | refine zBf ?_)
    refine x_cond rfl (fun h => ?_) (fun h => ?_)
    · have hj' : j < WB.length := by simpa using h
      obtain ⟨c, hc⟩ := nth hj'
      have hct := hcd c (List.mem_of_getElem? hc)
      have hsj := filt_snoc isFun hc
      have hat2 := Ex.at hc
      have hlB := or_lt7 hlA (orm_lt D hlt ((WB.take j).filter isFun))
      have hld := hlt c
      clear h hc hcd hlt
      have hkd : isFun c = decide (c.kd = 10) := rfl
      cases d1 : decide (c.kd = 10)
      · rw [hkd, d1, cond_false, List.append_nil] at hsj
        clear hct hkd
        obtain ⟨kc, nc, tc, nsc, ysc, lc, rsc, pc⟩ := c
        replace d1 : decide (kc = 10) = false := d1
        repeat (first | refine gG ?_ | refine zN1 (fun hlen => ?_) | refine zN2 (fun hlen => ?_) | refine zAl (fun _ => ?_) | refine zBf ?_)
        refine zIx (j) (hj') ?_
        repeat (first | refine gG ?_ | refine zN1 (fun hlen => ?_) | refine zN2 (fun hlen => ?_) | refine zAl (fun _ => ?_) | refine zBx (fun _ => ?_))
        refine zEl (hat2) (Ex.ts_len _) ?_
        repeat (first | refine gG ?_ | refine zN1 (fun hlen => ?_) | refine zN2 (fun hlen => ?_) | refine zAl (fun _ => ?_) | refine zBf ?_)
        exact ⟨j + 1, hj', by omega, x_wkd 0 ⟨rfl, by rw [hsj]; rfl, trivial⟩ rfl (by repeat (first | exact ag_refl | refine ag_upd rfl ?_ | refine ag_at rfl rfl ?_))⟩
      · rw [hkd, d1, cond_true] at hsj
        have hs2 : o ||| orL (((WB.take (j + 1)).filter isFun).map D) = (o ||| orL (((WB.take j).filter isFun).map D)) ||| D c := by
          rw [hsj, List.map_append, List.map_cons, List.map_nil, orL_snoc, Nat.or_assoc]
        clear hsj hkd
        generalize o ||| orL (((WB.take j).filter isFun).map D) = oj at *
        generalize D c = dc at *
        obtain ⟨kc, nc, tc, nsc, ysc, lc, rsc, pc⟩ := c
        replace d1 : decide (kc = 10) = true := d1
        repeat (first | refine gG ?_ | refine zN1 (fun hlen => ?_) | refine zN2 (fun hlen => ?_) | refine zAl (fun _ => ?_) | refine zBf ?_)
        refine zIx (j) (hj') ?_
        repeat (first | refine gG ?_ | refine zN1 (fun hlen => ?_) | refine zN2 (fun hlen => ?_) | refine zAl (fun _ => ?_) | refine zBx (fun _ => ?_))
        refine zEl (hat2) (Ex.ts_len _) ?_
        repeat (first | refine gG ?_ | refine zN1 (fun hlen => ?_) | refine zN2 (fun hlen => ?_) | refine zAl (fun _ => ?_) | refine zBf ?_)
        refine zCall (hct) ?_
        rintro _ rfl
        repeat (first | refine gG ?_ | refine zN1 (fun hlen => ?_) | refine zN2 (fun hlen => ?_) | refine zAl (fun _ => ?_) | refine zBf ?_)
        refine zOrN ?_
        repeat (first | refine gG ?_ | refine zN1 (fun hlen => ?_) | refine zN2 (fun hlen => ?_) | refine zAl (fun _ => ?_) | refine zBf ?_)
        exact ⟨j + 1, hj', by omega, x_wkd 0 ⟨rfl, congrArg (fun n : Nat => AV.c (.lit (.int .i64 (n : Int)))) hs2.symm, trivial⟩ rfl (by repeat (first | exact ag_refl | refine ag_upd rfl ?_ | refine ag_at rfl rfl ?_))⟩
    · have hj' : j = WB.length := by
        have : ¬ j < WB.length := by simpa using h
        omega
      subst hj'
      clear h hcd
      rw [List.take_length]
      repeat (first | refine gG ?_ | refine zN1 (fun hlen => ?_) | refine zN2 (fun hlen => ?_) | refine zAl (fun _ => ?_) | refine zBf ?_)
      exact ⟨k + 1, hk', by omega, x_wkd 0 ⟨rfl, by rw [hO', hsn]; rfl, trivial⟩ rfl (by repeat (first | exact ag_refl | refine ag_upd rfl ?_ | refine ag_at rfl rfl ?_))⟩
  · have hk' : k = bl.length := by
      have : ¬ k < bl.length := by simpa using h
      omega
    subst hk'
    clear h
    rw [List.take_length]
    repeat (first | refine gG ?_ | refine zN1 (fun hlen => ?_) | refine zN2 (fun hlen => ?_) | refine zAl (fun _ => ?_) | refine zBf ?_)
    first | refine zR ?_ | refine zQ ?_
    rfl
set_option maxRecDepth 100000 in
set_option maxHeartbeats 4000000 in
theorem effectsOf_af (p : Pr) (hp : p.mass ≤ 1048576) (D : Ex → Nat) (hD : DoOk p.funs p.values D) : AF Try.prog 55 [p.t] (· = .agg [.lit (.int .i64 (badF D (p.impls.flatMap Im.funcs)).1), .lit (.int .i64 (badF D (p.impls.flatMap Im.funcs)).2)]) := by
  have hcd : ∀ f ∈ p.impls.flatMap Im.funcs, AF Try.prog 60 [p.t, f.body.t] (· = .lit (.int .i64 (D f.body : Nat))) := fun f hf => doesOf_af p f.body hp (Nat.le_trans (p.fun_mass (by rw [Pr.funs]; exact List.mem_append_left _ hf)) hp) D hD
  have hlt := fun e => (hD e).1
  clear hD hp
  obtain ⟨nm, vr, us, ds, trs, ims, fus, acs⟩ := p
  dsimp only at hcd
  refine af_enter tok Try.func55 Try.ntmps55 Try.results55 rfl (by kernel_rfl) rfl rfl fun F hX => ?_
  repeat (first | refine gG ?_ | refine zN1 (fun hlen => ?_) | refine zN2 (fun hlen => ?_) | refine zAl (fun _ => ?_) | refine zBx (fun _ => ?_))
  rename_i b1 b2
  refine x_loop [4, 6, 10, 11, 12, 13, 14, 15, 16, 17, 18, 19, 20, 21, 22, 23, 24, 25, 26, 27, 28, 29, 30, 31, 32] (fun k : Nat => [(10, .c (.lit (.int .i64 (k : Nat))))]) (fun _ => [.box b1 73 [.c (.lit (.string nm)), .c (.lit (.int .i64 vr)), .c (Us.row us), .c (Da.row ds), .c (Tr.row trs), .c (Im.row ims), .c (Fu.row fus), .c (Ac.row acs)], .box b2 126 [.c (.lit (.int .i64 0)), .c (.lit (.int .i64 0))]])
    (fun k => k ≤ ims.length ∧ OkTo D ims k [] 0) (fun k => ims.length - k) 0 ⟨Nat.zero_le _, OkTo.zero D ims⟩ ⟨rfl, trivial⟩ rfl ?_
  rintro k ⟨hk, hok⟩
  repeat (first | refine gG ?_ | refine zN1 (fun hlen => ?_) | refine zN2 (fun hlen => ?_) | refine zAl (fun _ => ?_) | refine zBx (fun _ => ?_))
  refine x_cond rfl (fun h => ?_) (fun h => ?_)
  · have hk' : k < ims.length := by simpa using h
    obtain ⟨i, hi⟩ := nth hk'
    have hok := hok.inn i.funcs
    have hout := fun h => OkTo.out (D := D) h hi
    have hbad := fun {j} (h : OkTo D ims k i.funcs j) {f} (hf : i.funcs[j]? = some f) => h.bad hi hf
    have hid : ∀ f ∈ i.funcs, _ := fun f hf => hcd f (List.mem_flatMap.2 ⟨i, List.mem_of_getElem? hi, hf⟩)
    clear h hcd
    repeat (first | refine gG ?_ | refine zN1 (fun hlen => ?_) | refine zN2 (fun hlen => ?_) | refine zAl (fun _ => ?_) | refine zBx (fun _ => ?_))
    refine zIx (k) (hk') ?_
    repeat (first | refine gG ?_ | refine zN1 (fun hlen => ?_) | refine zN2 (fun hlen => ?_) | refine zAl (fun _ => ?_) | refine zBx (fun _ => ?_))
    refine zEl (Im.at hi) (Im.ts_len i) ?_
    obtain ⟨tn, dn, fs⟩ := i
    dsimp only at hok hout hbad hid
    clear hi
    repeat (first | refine gG ?_ | refine zN1 (fun hlen => ?_) | refine zN2 (fun hlen => ?_) | refine zAl (fun _ => ?_) | refine zBx (fun _ => ?_))
    refine x_drop 2 rfl ?_
    refine x_loop [6, 17, 18, 19, 20, 21, 22, 23, 24, 25, 26, 27, 28, 29, 30, 31] (fun j : Nat => [(17, .c (.lit (.int .i64 (j : Nat))))]) (fun _ => [.box b1 73 [.c (.lit (.string nm)), .c (.lit (.int .i64 vr)), .c (Us.row us), .c (Da.row ds), .c (Tr.row trs), .c (Im.row ims), .c (Fu.row fus), .c (Ac.row acs)], .box b2 126 [.c (.lit (.int .i64 0)), .c (.lit (.int .i64 0))]])
      (fun j => j ≤ fs.length ∧ OkTo D ims k fs j) (fun j => fs.length - j) 0 ⟨Nat.zero_le _, hok⟩ ⟨rfl, trivial⟩ rfl ?_
    clear hok
    rintro j ⟨hj, hok⟩
    repeat (first | refine gG ?_ | refine zN1 (fun hlen => ?_) | refine zN2 (fun hlen => ?_) | refine zAl (fun _ => ?_) | refine zBx (fun _ => ?_))
    refine x_cond rfl (fun h => ?_) (fun h => ?_)
    · have hj' : j < fs.length := by simpa using h
      obtain ⟨f, hf⟩ := nth hj'
      have hcall := hid f (List.mem_of_getElem? hf)
      have hl := hlt f.body
      have hbad := hbad hok hf
      have hstep := hok.step hf
      have hat := Fu.at hf
      clear h hid hlt hok hout hf
      simp only [okF] at hbad hstep
      generalize D f.body = d at *
      obtain ⟨fn, fpa, fna, fty, ⟨ko, no, lo⟩, ⟨kb, nb, tb, nsb, ysb, lb, rsb, pb⟩⟩ := f
      dsimp only at hcall hbad
      repeat (first | refine gG ?_ | refine zN1 (fun hlen => ?_) | refine zN2 (fun hlen => ?_) | refine zAl (fun _ => ?_) | refine zBx (fun _ => ?_))
      refine zIx (j) (hj') ?_
      repeat (first | refine gG ?_ | refine zN1 (fun hlen => ?_) | refine zN2 (fun hlen => ?_) | refine zAl (fun _ => ?_) | refine zBx (fun _ => ?_))
      refine zEl (hat) (Fu.ts_len _) ?_
      repeat (first | refine gG ?_ | refine zN1 (fun hlen => ?_) | refine zN2 (fun hlen => ?_) | refine zAl (fun _ => ?_) | refine zBx (fun _ => ?_))
      refine zCall (hcall) ?_
      rintro _ rfl
      repeat (first | refine gG ?_ | refine zN1 (fun hlen => ?_) | refine zN2 (fun hlen => ?_) | refine zAl (fun _ => ?_) | refine zBx (fun _ => ?_))
      refine zAndN (b := 47) ?_
      repeat (first | refine gG ?_ | refine zN1 (fun hlen => ?_) | refine zN2 (fun hlen => ?_) | refine zAl (fun _ => ?_) | refine zBx (fun _ => ?_))
      refine x_cond rfl (fun h => ?_) (fun h => ?_)
      · have hb := hbad (fun e => by rw [e] at h; simp at h)
        rw [hb]
        clear h hbad hstep hcall
        repeat (first | refine gG ?_ | refine zN1 (fun hlen => ?_) | refine zN2 (fun hlen => ?_) | refine zAl (fun _ => ?_) | refine zBx (fun _ => ?_))
        first | refine zR ?_ | refine zQ ?_
        rfl
      · have hn := hstep (Int.ofNat.inj (by simpa using h))
        clear h hbad hstep hcall
        repeat (first | refine gG ?_ | refine zN1 (fun hlen => ?_) | refine zN2 (fun hlen => ?_) | refine zAl (fun _ => ?_) | refine zBx (fun _ => ?_))
        exact ⟨j + 1, ⟨hj', hn⟩, by omega, x_wkd 2 ⟨rfl, trivial⟩ rfl (by repeat (first | exact ag_refl | refine ag_upd rfl ?_ | refine ag_at rfl rfl ?_))⟩
    · have hj' : j = fs.length := by
        have : ¬ j < fs.length := by simpa using h
        omega
      subst hj'
      have hn := hout hok
      clear h hbad hid hout
      repeat (first | refine gG ?_ | refine zN1 (fun hlen => ?_) | refine zN2 (fun hlen => ?_) | refine zAl (fun _ => ?_) | refine zBx (fun _ => ?_))
      exact ⟨k + 1, ⟨hk', hn⟩, by omega, x_wkd 2 ⟨rfl, trivial⟩ rfl (by repeat (first | exact ag_refl | refine ag_upd rfl ?_ | refine ag_at rfl rfl ?_))⟩
  · have hk' : k = ims.length := by
      have : ¬ k < ims.length := by simpa using h
      omega
    subst hk'
    have hb := hok.all
    rw [hb]
    clear h hcd hok hb
    repeat (first | refine gG ?_ | refine zN1 (fun hlen => ?_) | refine zN2 (fun hlen => ?_) | refine zAl (fun _ => ?_) | refine zBx (fun _ => ?_))
    first | refine zR ?_ | refine zQ ?_
    rfl
end Go.Proofs.Ytllgibfmddihgaa
namespace Go.Proofs.Ytllgibfmddihgaa
open Go.RowKit
theorem lo_nesr {P : Program} {F : Frm} {d : Option Tmp} {ty : TypeId} {pos : String} {aft : Array Edge} {g : Option (Nat × Bool)} {ρ : Operand → AV} {hp : List Blk} {K : AV → List Blk → Prop} {t t' : TypeId} {x y : Operand} {a b : ByteArray} {r : Bool} (h : K (.c (.lit (.bool r))) hp) (hx : ρ x = .c (.lit (.string a)) := by exact rfl) (hy : ρ y = .c (.lit (.string b)) := by exact rfl) (hr : (!decide (a = b)) = r := by simp) : LO P F ⟨d, .binOp .neq t x y t', ty, pos, aft, g⟩ ρ hp K :=
  lo_nes hx hy (hr ▸ h)
theorem lo_neir {P : Program} {F : Frm} {d : Option Tmp} {ty : TypeId} {pos : String} {aft : Array Edge} {g : Option (Nat × Bool)} {ρ : Operand → AV} {hp : List Blk} {K : AV → List Blk → Prop} {t t' : TypeId} {x y : Operand} {k : IntKind} {a b : Int} {r : Bool} (h : K (.c (.lit (.bool r))) hp) (hx : ρ x = .c (.lit (.int k a)) := by exact rfl) (hy : ρ y = .c (.lit (.int k b)) := by exact rfl) (hr : (!decide (a = b)) = r := by simp) : LO P F ⟨d, .binOp .neq t x y t', ty, pos, aft, g⟩ ρ hp K :=
  lo_neq hx hy (hr ▸ h)
end Go.Proofs.Ytllgibfmddihgaa
