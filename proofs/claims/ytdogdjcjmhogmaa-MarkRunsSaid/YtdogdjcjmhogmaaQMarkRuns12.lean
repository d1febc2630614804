/-
  Texts of this proof, part 12: Kpl Kqa Kqb Kqd.
-/
import Derived.Test.YtdogdjcjmhogmaaQMarkRuns11
namespace Go.Proofs.Ytdogdjcjmhogmaa
open Go.RowKit
def mdRow (ds : List Md) : T := .row ds.length 4 (ds.flatMap mdTs)
theorem md_at {l : List Md} {k : Nat} {y : Md} (h : l[k]? = some y) : ((l.flatMap mdTs).drop (k * 4)).take 4 = mdTs y := flat_at mdTs 4 (fun _ => rfl) h
theorem runM1_af (n : Int) : AF Try.prog 57 [iL n] (· = .lit (.bool (decide (n < 0) || decide (n > 1000000)))) := by
  cases d0 : decide (n < 0) <;>
  · refine af_enter tok Try.func57 Try.ntmps57 Try.results57 rfl (by kernel_rfl) rfl rfl fun F hX => ?_
    repeat (first | refine gG ?_)
    first | refine zR ?_ | refine zQ ?_
    rfl
def outC (n : Int) : Bool := decide (n < 0) || decide (n > 1000000)
def markErr (l : List Int) (ds : List Md) : Int := if 8 < l.length ∨ 400 < ds.length then 2 else if l.any outC = true then 1 else 0
@[reducible] def noShot : T := .agg [.lit (.bool false), .lit (.slice none 0 0), .lit (.slice none 0 0), .lit (.slice none 0 0), iL 0]
set_option maxRecDepth 100000 in
set_option maxHeartbeats 4000000 in
theorem mrun_err (l : List Int) (ds : List Md) (he : markErr l ds ≠ 0) : AF Try.prog 34 [intRow l, mdRow ds] (· = .tup [noShot, iL (markErr l ds)]) := by
  have hc := hasIntF_af outC 57 [] l (fun a _ => runM1_af a)
  unfold markErr at he ⊢
  cases d2 : decide (((l.length : Nat) : Int) > 8)
  rotate_left
  · rw [if_pos (.inl (by have := of_decide_eq_true d2; omega))]
    refine af_enter tok Try.func34 Try.ntmps34 Try.results34 rfl (by kernel_rfl) rfl rfl fun F hX => ?_
    repeat (first | refine gG ?_ | refine zN1 (fun hlen => ?_) | refine zN2 (fun hlen => ?_) | refine zAl (fun _ => ?_))
    first | refine zR ?_ | refine zQ ?_
    rfl
  have n2 := of_decide_eq_false d2
  cases d3 : decide (((ds.length : Nat) : Int) > 400)
  rotate_left
  · rw [if_pos (.inr (by have := of_decide_eq_true d3; omega))]
    refine af_enter tok Try.func34 Try.ntmps34 Try.results34 rfl (by kernel_rfl) rfl rfl fun F hX => ?_
    repeat (first | refine gG ?_ | refine zN1 (fun hlen => ?_) | refine zN2 (fun hlen => ?_) | refine zAl (fun _ => ?_))
    first | refine zR ?_ | refine zQ ?_
    rfl
  have n3 := of_decide_eq_false d3
  rw [if_neg (by omega)] at he ⊢
  cases d4 : l.any outC
  · rw [d4] at he; exact absurd rfl he
  rw [if_pos rfl]
  rw [d4] at hc
  clear he
  refine af_enter tok Try.func34 Try.ntmps34 Try.results34 rfl (by kernel_rfl) rfl rfl fun F hX => ?_
  repeat (first | refine gG ?_ | refine zN1 (fun hlen => ?_) | refine zN2 (fun hlen => ?_) | refine zAl (fun _ => ?_))
  refine zCall (hc) ?_
  rintro _ rfl
  repeat (first | refine gG ?_ | refine zN1 (fun hlen => ?_) | refine zN2 (fun hlen => ?_) | refine zAl (fun _ => ?_))
  first | refine zR ?_ | refine zQ ?_
  rfl
def stepP (n : Nat) (d : Md) (p : Qs × WayL) : Qs × WayL := (stepQ n d p.1, stepW n d p.1 p.2)
def endP (l : List Int) (ds : List Md) : Qs × WayL := ds.foldl (fun p d => stepP l.length d p) (startQ l, [])
def endQ (l : List Int) (ds : List Md) : Qs := ds.foldl (fun Q d => stepQ l.length d Q) (startQ l)
structure POk (n k : Nat) (p : Qs × WayL) : Prop where
  q : QOk n k p.1
  w : WOk n p.1.ch p.2
  dg : ∀ a, (p.1.ch a a).sent = []
theorem dg_beg {Q : Qs} (i : Nat) (h : ∀ a, (Q.ch a a).sent = []) : ∀ a, ((begQ i Q).ch a a).sent = [] := fun a => by
  unfold begQ
  split
  · exact h a
  · exact h a
theorem dg_upd {ch : Nat → Nat → Ch} {a b : Nat} {c : Ch} (hab : a ≠ b) (h : ∀ a, (ch a a).sent = []) : ∀ i, (updC ch a b c i i).sent = [] := fun i => by
  unfold updC
  rw [if_neg (fun e => hab (e.1.symm.trans e.2))]
  exact h i
theorem step_p {n k : Nat} {p : Qs × WayL} (h : POk n k p) (d : Md) : POk n (k + 1) (stepP n d p) := by
  refine ⟨step_q h.q d, step_w h.q h.w d, ?_⟩
  unfold stepP stepQ
  dsimp only
  split
  · split
    · exact dg_beg _ h.dg
    · split
      · rename_i h1 _ h3
        have hab : d.src.toNat ≠ d.dst.toNat := fun e => h3.2 (by have := h3.1; unfold isP at h1 this; omega)
        split
        · split
          · exact dg_upd hab h.dg
          · exact h.dg
        · split
          · split
            · exact dg_beg _ (Q := { p.1 with ch := _ }) (dg_upd hab h.dg)
            · split
              · exact dg_upd hab h.dg
              · exact h.dg
          · exact h.dg
      · exact h.dg
  · exact h.dg
theorem all_p {l : List Int} {ds : List Md} : ∀ k, k ≤ ds.length → POk l.length k ((ds.take k).foldl (fun p d => stepP l.length d p) (startQ l, []))
  | 0, _ => ⟨start_q l, start_w l, fun _ => rfl⟩
  | k + 1, hk => by
    have ih := all_p (l := l) (ds := ds) k (by omega)
    obtain ⟨h1, h2⟩ := List.getElem?_eq_some_iff.1 (nth (show k < ds.length by omega)).choose_spec
    rw [List.take_succ_eq_append_getElem h1, List.foldl_append]
    exact step_p ih _
theorem end_fst (l : List Int) (ds : List Md) : (endP l ds).1 = endQ l ds := by
  unfold endP endQ
  suffices h : ∀ (p : Qs × WayL), (ds.foldl (fun p d => stepP l.length d p) p).1 = ds.foldl (fun Q d => stepQ l.length d Q) p.1 from h _
  induction ds with
  | nil => intro p; rfl
  | cons d ds ih => intro p; rw [List.foldl_cons, List.foldl_cons, ih]; rfl
/-- what both give -/
def markT (l : List Int) (ds : List Md) : T := shotT l.length (endQ l ds) (w64 (leftN l.length (endQ l ds) : Nat))
set_option maxRecDepth 100000 in
set_option maxHeartbeats 16000000 in
theorem mrun_ok (l : List Int) (ds : List Md) (he : markErr l ds = 0) : AF Try.prog 34 [intRow l, mdRow ds] (· = .tup [markT l ds, iL 0]) := by
  have hl : l.length ≤ 8 ∧ ds.length ≤ 400 ∧ l.any outC = false := by
    unfold markErr at he
    have c1 : ¬ (8 < l.length ∨ 400 < ds.length) := fun h => absurd he (by rw [if_pos h]; decide)
    rw [if_neg c1] at he
    refine ⟨by omega, by omega, ?_⟩
    cases h : l.any outC with
    | false => rfl
    | true => exact absurd he (by rw [h, if_pos rfl]; decide)
  obtain ⟨hl, hd, ha⟩ := hl
  have hc := hasIntF_af outC 57 [] l (fun a _ => runM1_af a)
  rw [ha] at hc
  have d2 : decide (((l.length : Nat) : Int) > 8) = false := decide_eq_false (by omega)
  have d3 : decide (((ds.length : Nat) : Int) > 400) = false := decide_eq_false (by omega)
  have hend : ∀ lf, lf = w64 ((((endP l ds).2.map fun p => posN p.2).sum : Nat) : Int) → shotT l.length (endP l ds).1 lf = markT l ds := fun lf e => by
    have hp := all_p (l := l) (ds := ds) ds.length (Nat.le_refl _)
    rw [List.take_length] at hp
    have hs := ways_sum hp.q hp.w hp.dg
    unfold markT
    rw [e, show ((endP l ds).2.map fun p => posN p.2).sum = leftN l.length (endP l ds).1 from hs, end_fst]
  refine af_enter tok Try.func34 Try.ntmps34 Try.results34 rfl (by kernel_rfl) rfl rfl fun F hX => ?_
  repeat (first | refine gG ?_ | refine zN1 (fun hlen => ?_) | refine zN2 (fun hlen => ?_) | refine zAl (fun _ => ?_))
  rename_i b6 _
  refine zCall (hc) ?_
  rintro _ rfl
  repeat (first | refine gG ?_ | refine zN1 (fun hlen => ?_) | refine zN2 (fun hlen => ?_) | refine zAl (fun _ => ?_))
  refine lo_frame [] [reS b6] (List.Perm.refl _) (fun F' => ?_)
  refine zCallAll (nwm_ag l hl) (List.Perm.refl _) ?_
  rintro _ _ ⟨x, hx, rfl, W0, rv0, hW0, hq0⟩
  refine ⟨_, re_refl, ?_⟩
  refine al_wk (wk_perm (hq0.append_right _)) ?_
  repeat (first | refine gG ?_ | refine zN1 (fun hlen => ?_) | refine zN2 (fun hlen => ?_) | refine zAl (fun _ => ?_))
  refine x_loop [8, 25, 26, 27, 28, 29, 30, 31, 32] (fun q : Nat × WayV × (Nat → Nat → Value) => [(25, .c (iL (q.1 : Nat)))]) (fun q => allM x q.2.1 q.2.2 ((ds.take q.1).foldl (fun p d => stepP l.length d p) (startQ l, [])).1 ++ [reS b6]) (fun q => q.1 ≤ ds.length ∧ bareI q.2.1 = ((ds.take q.1).foldl (fun p d => stepP l.length d p) (startQ l, [])).2) (fun q => ds.length - q.1) (0, W0, rv0) ⟨Nat.zero_le _, hW0⟩ ⟨rfl, trivial⟩ rfl ?_
  rintro ⟨k, W, rv⟩ ⟨hk, hW⟩
  dsimp only at hk hW ⊢
  repeat (first | refine gG ?_ | refine zN1 (fun hlen => ?_) | refine zN2 (fun hlen => ?_) | refine zAl (fun _ => ?_))
  refine x_cond rfl (fun h => ?_) (fun h => ?_)
  · have hk' : k < ds.length := by simpa using h
    obtain ⟨d, hdk⟩ := nth hk'
    have hP := all_p (l := l) k hk
    have hsn : (ds.take (k + 1)).foldl (fun p d => stepP l.length d p) (startQ l, []) = stepP l.length d ((ds.take k).foldl (fun p d => stepP l.length d p) (startQ l, [])) := by
      obtain ⟨h1, rfl⟩ := List.getElem?_eq_some_iff.1 hdk
      rw [List.take_succ_eq_append_getElem h1, List.foldl_append]
      rfl
    generalize hpk : (ds.take k).foldl (fun p d => stepP l.length d p) (startQ l, []) = p at *
    have hcall := dm_ag x W rv p.1 d (by rw [hx]; exact hP.q) (by rw [hx, hW]; exact hP.w) (by omega) (by omega)
    rw [hW, hx] at hcall
    clear h
    repeat (first | refine gG ?_ | refine zN1 (fun hlen => ?_) | refine zN2 (fun hlen => ?_) | refine zAl (fun _ => ?_))
    refine zIx k hk' ?_
    repeat (first | refine gG ?_ | refine zN1 (fun hlen => ?_) | refine zN2 (fun hlen => ?_) | refine zAl (fun _ => ?_))
    refine zEl (md_at hdk) rfl ?_
    repeat (first | refine gG ?_ | refine zN1 (fun hlen => ?_) | refine zN2 (fun hlen => ?_) | refine zAl (fun _ => ?_))
    refine zAlE (fun _ => ?_)
    repeat (first | refine gG ?_ | refine zN1 (fun hlen => ?_) | refine zN2 (fun hlen => ?_) | refine zAl (fun _ => ?_))
    refine zStE rfl ?_
    repeat (first | refine gO ?_ | refine ac_seq ?_ | refine ac_block ?_)
    refine x_frz0 8 (mdTs d) ?_
    repeat (first | refine gG ?_ | refine zN1 (fun hlen => ?_) | refine zN2 (fun hlen => ?_) | refine zAl (fun _ => ?_))
    refine lo_frame (allM x W rv p.1) [reS b6] (List.Perm.refl _) (fun F' => ?_)
    refine zCallAll hcall (List.Perm.refl _) ?_
    rintro _ _ ⟨W', rv', hW', hq⟩
    refine ⟨_, re_refl, ?_⟩
    refine al_wk (wk_perm (hq.append_right _)) ?_
    repeat (first | refine gG ?_ | refine zN1 (fun hlen => ?_) | refine zN2 (fun hlen => ?_) | refine zAl (fun _ => ?_))
    exact ⟨(k + 1, W', rv'), ⟨hk', by rw [hsn]; exact hW'⟩, by dsimp only; omega, x_wk ⟨rfl, trivial⟩ (by dsimp only; rw [hsn]; rfl) (by repeat (first | exact ag_refl | refine ag_upd rfl ?_ | refine ag_at rfl rfl ?_))⟩
  have hk' : k = ds.length := by have : ¬ k < ds.length := by simpa using h
                                 omega
  subst hk'
  clear h
  rw [List.take_length] at hW ⊢
  have hP := all_p (l := l) (ds := ds) ds.length (Nat.le_refl _)
  rw [List.take_length] at hP
  replace hend := hend _ (by rw [show (endP l ds).2 = bareI W from hW.symm])
  have hcall := shot_ag x W rv (endP l ds).1 (by rw [hx]; exact hP.q) (by omega) (by omega)
  rw [hx] at hcall
  repeat (first | refine gG ?_ | refine zN1 (fun hlen => ?_) | refine zN2 (fun hlen => ?_) | refine zAl (fun _ => ?_))
  refine lo_frame (allM x W rv (endP l ds).1) [reS b6] (List.Perm.refl _) (fun F' => ?_)
  refine zCallAll hcall (List.Perm.refl _) ?_
  rintro r _ ⟨hr, rfl⟩
  unfold shotA at hr
  refine ⟨_, re_refl, ?_⟩
  unfold shotT at hend
  rw [← hend]
  have hsc : (∃ m ts, (if dnT l.length (endP l ds).1 l.length = true then T.row l.length 1 (stL l.length (endP l ds).1 l.length) else .lit (.slice none 0 0)) = .row m 1 ts) ∨ (if dnT l.length (endP l ds).1 l.length = true then T.row l.length 1 (stL l.length (endP l ds).1 l.length) else .lit (.slice none 0 0)) = .lit (.slice none 0 0) := by
    split
    · exact .inl ⟨_, _, rfl⟩
    · exact .inr rfl
  have hwc : (∃ m ts, (if dnT l.length (endP l ds).1 l.length = true then T.row l.length 1 (wyL l.length (endP l ds).1 l.length) else .lit (.slice none 0 0)) = .row m 1 ts) ∨ (if dnT l.length (endP l ds).1 l.length = true then T.row l.length 1 (wyL l.length (endP l ds).1 l.length) else .lit (.slice none 0 0)) = .lit (.slice none 0 0) := by
    split
    · exact .inl ⟨_, _, rfl⟩
    · exact .inr rfl
  generalize (if dnT l.length (endP l ds).1 l.length = true then T.row l.length 1 (stL l.length (endP l ds).1 l.length) else .lit (.slice none 0 0)) = sT at *
  generalize (if dnT l.length (endP l ds).1 l.length = true then T.row l.length 1 (wyL l.length (endP l ds).1 l.length) else .lit (.slice none 0 0)) = wT at *
  generalize w64 ((((bareI W).map fun p => posN p.2).sum : Nat) : Int) = lf at *
  generalize dnT l.length (endP l ds).1 l.length = dn at *
  generalize (endP l ds).1.now = nw at *
  subst hr
  clear hend hcall hP hW hc hk ha he
  refine al_wk (wk_perm (hp' := [reS b6]) (List.Perm.refl _)) ?_
  rcases hsc with ⟨m1, ts1, rfl⟩ | rfl <;> rcases hwc with ⟨m2, ts2, rfl⟩ | rfl
  all_goals
    repeat (first | refine gG ?_ | refine zN1 (fun hlen => ?_) | refine zN2 (fun hlen => ?_) | refine zAl (fun _ => ?_))
    first | refine zR ?_ | refine zQ ?_
    rfl
end Go.Proofs.Ytdogdjcjmhogmaa
namespace Go.Proofs.Ytdogdjcjmhogmaa
open Go.RowKit
structure Ry where
  bb : Nat
  bn : Nat
  bs : Nat
  by_ : Nat
  my : Nat
  n : Nat
  vb : Value
  vn : Value
  vs : Value
  wb : Nat → Nat → Nat
/-- all pairs -/
def kN (n : Nat) : List (Nat × Nat) := (List.range n).flatMap fun a => (List.range n).map fun b => (a, b)
def cI (p : Nat × Nat) : Int × Int := (((p.1 : Nat) : Int), ((p.2 : Nat) : Int))
def wpT (wb : Nat → Nat → Nat) (k : Int × Int) : T := .lit (.pointer (some ⟨wb k.1.toNat k.2.toNat, 0, none⟩))
@[reducible] def wyT (b : Nat) (v : Value) (c : Ch) : Blk := .box b 157 [.own 9 v, .c (iL (c.got : Nat)), .c (iL c.mark), .c (.lit (.bool c.came)), .c (iL (c.atB : Nat))]
@[reducible] def chL (b : Nat) (v : Value) (c : Ch) : List Blk := [wyT b v c, .row v 3 1 c.sent.length (c.sent.flatMap intTs)]
def chF (x : Ry) (sv : Nat → Nat → Value) (ch : Nat → Nat → Ch) (p : Nat × Nat) : List Blk := chL (x.wb p.1 p.2) (sv p.1 p.2) (ch p.1 p.2)
@[reducible] def hR (x : Ry) (bg : Nat → Bool) (now : List Int) (st : Nat → Int) : List Blk :=
  [.box x.bb 97 [.own 4 x.vb], .box x.bn 22 [.own 5 x.vn], .box x.bs 22 [.own 6 x.vs], .box x.by_ 154 [.own 7 (.map (some x.my))],
   .row x.vb 4 1 x.n ((List.range x.n).map fun i => T.lit (.bool (bg i))), .row x.vn 3 1 now.length (now.flatMap intTs), .row x.vs 3 1 x.n ((List.range x.n).map fun i => iL (st i)), .mp x.my (mkeys pI (tabK (wpT x.wb) ((kN x.n).map cI)))]
@[reducible] def allR (x : Ry) (sv : Nat → Nat → Value) (Q : Qs) : List Blk := hR x Q.bg Q.now Q.st ++ (kN x.n).flatMap (chF x sv Q.ch)
theorem kN_nodup (n : Nat) : (kN n).Nodup := by
  unfold kN
  rw [List.nodup_iff_pairwise_ne, List.pairwise_flatMap]
  refine ⟨fun i _ => ?_, ?_⟩
  · exact List.pairwise_map.2 (List.nodup_range.imp fun h e => h (Prod.mk.inj e).2)
  · refine List.nodup_range.imp fun {a b} hne => ?_
    intro p hp q hq e
    obtain ⟨_, _, rfl⟩ := List.mem_map.1 hp
    obtain ⟨_, _, rfl⟩ := List.mem_map.1 hq
    exact hne (Prod.mk.inj e).1
theorem kN_mem {n a b : Nat} : (a, b) ∈ kN n ↔ a < n ∧ b < n := by
  unfold kN
  rw [List.mem_flatMap]
  constructor
  · rintro ⟨a', h1, h2⟩
    obtain ⟨b', h3, e⟩ := List.mem_map.1 h2
    obtain ⟨rfl, rfl⟩ := Prod.mk.inj e
    exact ⟨List.mem_range.1 h1, List.mem_range.1 h3⟩
  · rintro ⟨h1, h2⟩
    exact ⟨a, List.mem_range.2 h1, List.mem_map.2 ⟨b, List.mem_range.2 h2, rfl⟩⟩
theorem wlk (wb : Nat → Nat → Nat) {n a b : Nat} (ha : a < n) (hb : b < n) : (mget ((a : Int), (b : Int)) (tabK (wpT wb) ((kN n).map cI))).getD (.lit (.pointer none)) = .lit (.pointer (some ⟨wb a b, 0, none⟩)) := by
  have h := tabK_get (wpT wb) (cI (a, b)) (ks := (kN n).map cI) (List.mem_map.2 ⟨(a, b), kN_mem.2 ⟨ha, hb⟩, rfl⟩)
  show (mget (cI (a, b)) _).getD _ = _
  rw [h]
  rfl
/-- one of a family of lists over a list, out -/
theorem flatL_out {α : Type} {f g : Nat × Nat → List α} {ks : List (Nat × Nat)} {j : Nat} {p : Nat × Nat} (hn : ks.Nodup) (hj : ks[j]? = some p) (h : ∀ q, q ∈ ks → q ≠ p → g q = f q) : (ks.flatMap g).Perm (g p ++ (ks.eraseIdx j).flatMap f) := by
  obtain ⟨h1, h2⟩ := List.getElem?_eq_some_iff.1 hj
  have hp := (erase_perm (l := ks) (i := j) h1).flatMap_right g
  rw [h2, List.flatMap_cons] at hp
  have e : (ks.eraseIdx j).flatMap g = (ks.eraseIdx j).flatMap f := by
    unfold List.flatMap
    rw [List.map_congr_left fun a ha => h a (List.mem_of_mem_eraseIdx ha) (fun e => erase_not hn hj (e ▸ ha))]
  rw [e] at hp
  exact hp
theorem ch_out (x : Ry) (sv sv' : Nat → Nat → Value) (ch ch' : Nat → Nat → Ch) (H : List Blk) {a b j : Nat} (hj : (kN x.n)[j]? = some (a, b)) (h1 : ∀ a' b', a' < x.n → b' < x.n → ¬ (a' = a ∧ b' = b) → ch' a' b' = ch a' b') (h2 : ∀ a' b', ¬ (a' = a ∧ b' = b) → sv' a' b' = sv a' b') : (H ++ (kN x.n).flatMap (chF x sv' ch')).Perm (H ++ (chL (x.wb a b) (sv' a b) (ch' a b) ++ ((kN x.n).eraseIdx j).flatMap (chF x sv ch))) := by
  refine List.Perm.append_left H (flatL_out (f := chF x sv ch) (g := chF x sv' ch') (kN_nodup _) hj fun q hm hq => ?_)
  obtain ⟨a', b'⟩ := q
  have hne : ¬ (a' = a ∧ b' = b) := fun e => hq (by rw [e.1, e.2])
  have := kN_mem.1 hm
  unfold chF
  dsimp only
  rw [h1 a' b' this.1 this.2 hne, h2 a' b' hne]
def chB (i k : Nat) (ch : Nat → Nat → Ch) : Nat → Nat → Ch := fun a b => { ch a b with mark := if a = i ∧ b < k then (((ch a b).sent.length : Nat) : Int) else (ch a b).mark, atB := if b = i ∧ a < k then (ch a b).got else (ch a b).atB }
/-- between the two stores of a round -/
def chB1 (i k : Nat) (ch : Nat → Nat → Ch) : Nat → Nat → Ch := fun a b => { ch a b with mark := if a = i ∧ b < k + 1 then (((ch a b).sent.length : Nat) : Int) else (ch a b).mark, atB := if b = i ∧ a < k then (ch a b).got else (ch a b).atB }
theorem chB_0 (i : Nat) (ch : Nat → Nat → Ch) : chB i 0 ch = ch := by
  funext a b
  unfold chB
  rw [if_neg (by omega), if_neg (by omega)]
theorem chB1_ne {i k a b : Nat} (ch : Nat → Nat → Ch) (h : ¬ (a = i ∧ b = k)) : chB1 i k ch a b = chB i k ch a b := by
  unfold chB1 chB
  have : (a = i ∧ b < k + 1) ↔ (a = i ∧ b < k) := by omega
  simp only [this]
theorem chB1_at (i k : Nat) (ch : Nat → Nat → Ch) : chB1 i k ch i k = { chB i k ch i k with mark := (((chB i k ch i k).sent.length : Nat) : Int) } := by
  unfold chB1 chB
  dsimp only
  rw [if_pos ⟨rfl, by omega⟩]
theorem chB_ne {i k a b : Nat} (ch : Nat → Nat → Ch) (h : ¬ (a = k ∧ b = i)) : chB i (k + 1) ch a b = chB1 i k ch a b := by
  unfold chB1 chB
  have : (b = i ∧ a < k + 1) ↔ (b = i ∧ a < k) := by omega
  simp only [this]
theorem chB_at (i k : Nat) (ch : Nat → Nat → Ch) : chB i (k + 1) ch k i = { chB1 i k ch k i with atB := (chB1 i k ch k i).got } := by
  unfold chB1 chB
  dsimp only
  congr 1
  exact if_pos ⟨rfl, by omega⟩
theorem chB_end {x : Ry} {sv : Nat → Nat → Value} {Q : Qs} {i : Nat} (hb : Q.bg i = false) : (kN x.n).flatMap (chF x sv (chB i x.n Q.ch)) = (kN x.n).flatMap (chF x sv (begQ i Q).ch) := by
  unfold List.flatMap
  refine congrArg _ (List.map_congr_left fun p hp => ?_)
  obtain ⟨a, b⟩ := p
  have hm := kN_mem.1 hp
  have e : chB i x.n Q.ch a b = (begQ i Q).ch a b := by
    unfold begQ
    rw [if_neg (by rw [hb]; simp)]
    unfold chB begC
    dsimp only
    have e1 : (a = i ∧ b < x.n) ↔ a = i := ⟨fun h => h.1, fun h => ⟨h, hm.2⟩⟩
    have e2 : (b = i ∧ a < x.n) ↔ b = i := ⟨fun h => h.1, fun h => ⟨h, hm.1⟩⟩
    simp only [e1, e2]
  unfold chF
  dsimp only
  rw [e]
theorem row_lit_set {n i : Nat} (f : Nat → Bool) : ((List.range n).map fun j => T.lit (.bool (f j))).set (i * 1) (.lit (.bool true)) = (List.range n).map fun j => T.lit (.bool (updN f i true j)) := by
  rw [Nat.mul_one]
  exact rng_set _ _ _ _ _ (by rw [updN_at]) fun j hj => by rw [updN_ne _ hj]
theorem row_int_set {n i : Nat} (f : Nat → Int) (z : Int) : ((List.range n).map fun j => iL (f j)).set (i * 1) (iL z) = (List.range n).map fun j => iL (updN f i z j) := by
  rw [Nat.mul_one]
  exact rng_set _ _ _ _ _ (by rw [updN_at]) fun j hj => by rw [updN_ne _ hj]
@[reducible] def capY (x : Ry) : List AV := [.ptr 0 x.bb 0, .ptr 1 x.bn 0, .ptr 2 x.bs 0, .c (.pin [iL x.n] 0), .ptr 3 x.by_ 0]
set_option maxRecDepth 100000 in
set_option maxHeartbeats 16000000 in
theorem beg_ag (x : Ry) (sv : Nat → Nat → Value) (Q : Qs) (i : Nat) (hnl : Q.now.length = x.n) (hi : i < x.n) (h8 : x.n ≤ 8) : AG Try.prog 61 (.c (iL (i : Nat)) :: capY x) (allR x sv Q) (fun _ hs => hs.Perm (allR x sv (begQ i Q))) := by
  have hil : i < Q.now.length := by rw [hnl]; exact hi
  obtain ⟨c, hct⟩ := nth hil
  have hat := ints_at hct
  have hcd : Q.now.getD i 0 = c := by rw [List.getD, hct]; rfl
  have hk : ∀ Q' : Qs, (allR x sv Q').length = 8 + ((kN x.n).flatMap (chF x sv Q.ch)).length := fun Q' => by
    have e : ∀ ch : Nat → Nat → Ch, ((kN x.n).flatMap (chF x sv ch)).length = ((kN x.n).map fun _ => 2).sum := fun ch => by rw [List.length_flatMap]; rfl
    rw [allR, List.length_append, e, e]
    simp
  refine ag_enter (8 + ((kN x.n).flatMap (chF x sv Q.ch)).length) tok Try.func61 Try.ntmps61 Try.results61 rfl (by kernel_rfl) rfl fun F => ?_
  repeat (first | refine gG ?_ | refine zN1 (fun hlen => ?_) | refine zN2 (fun hlen => ?_))
  refine zIxo i hi ?_
  repeat (first | refine gG ?_ | refine zN1 (fun hlen => ?_) | refine zN2 (fun hlen => ?_))
  refine zElo1 (rng_at1 (fun i => T.lit (.bool (Q.bg i))) hi) ?_
  cases hb : Q.bg i
  rotate_left
  · have hQe : begQ i Q = Q := by unfold begQ; rw [if_pos hb]
    repeat (first | refine gG ?_ | refine zN1 (fun hlen => ?_) | refine zN2 (fun hlen => ?_))
    exact zGS (List.take_of_length_le (by rw [hk]; exact Nat.le_refl _)) (by rw [hQe])
  repeat (first | refine gG ?_ | refine zN1 (fun hlen => ?_) | refine zN2 (fun hlen => ?_))
  refine zIxo i hi ?_
  repeat (first | refine gO ?_)
  refine zSei (show i * 1 + 1 ≤ ((List.range x.n).map fun i => T.lit (.bool (Q.bg i))).length by simp; omega) ?_
  repeat (first | refine gO ?_ | refine ac_seq ?_ | refine ac_block ?_)
  refine ac_draw [1, 1, 1, 1, 1, 1, 1, 2] [0, 1, 2, 3, 4, 5, 6, 7] (by kernel_rfl) (by kernel_rfl) ?_
  refine gW ?_
  apply w_q; (focus exact rfl); (focus exact rfl); focus (intro _; (refine zIxo i hil ?_); exact det_refl)
  apply w_q; (focus exact rfl); (focus exact rfl); focus (intro _; (refine zElo1 hat ?_); exact det_refl)
  apply w_q; (focus exact rfl); (focus exact rfl); focus (intro _; (refine zIxo i hi ?_); exact det_refl)
  apply w_l; (focus exact rfl); (focus exact rfl); (refine zSei (show i * 1 + 1 ≤ ((List.range x.n).map fun i => iL (Q.st i)).length by simp; omega) ?_)
  refine w_nil ?_
  refine x_eq (hp' := hR x (updN Q.bg i true) Q.now (updN Q.st i c) ++ (kN x.n).flatMap (chF x sv (chB i 0 Q.ch))) (by rw [chB_0, hR, ← row_lit_set, ← row_int_set]; rfl) ?_
  generalize hbg : updN Q.bg i true = bg'
  generalize hst : updN Q.st i c = st'
  repeat (first | refine gG ?_ | refine zN1 (fun hlen => ?_) | refine zN2 (fun hlen => ?_))
  refine x_loop [7, 22, 23, 24, 25, 26, 27, 28, 29, 30, 31, 32, 33, 34, 35, 36, 37, 38, 39, 40, 41, 42, 43, 44, 45, 46, 47, 48, 49, 50, 51, 52, 53, 54, 55, 56, 57] (fun k : Nat => [(7, .c (iL (k : Nat)))]) (fun k => hR x bg' Q.now st' ++ (kN x.n).flatMap (chF x sv (chB i k Q.ch))) (fun k => k ≤ x.n) (fun k => x.n - k) 0 (Nat.zero_le _) ⟨rfl, trivial⟩ rfl ?_
  intro k hkn
  repeat (first | refine gG ?_ | refine zN1 (fun hlen => ?_) | refine zN2 (fun hlen => ?_))
  refine x_cond rfl (fun h => ?_) (fun h => ?_)
  · have hk' : k < x.n := by have := of_decide_eq_true h; omega
    clear h
    obtain ⟨j1, hj1⟩ := List.getElem?_of_mem (kN_mem.2 ⟨hi, hk'⟩)
    obtain ⟨j2, hj2⟩ := List.getElem?_of_mem (kN_mem.2 ⟨hk', hi⟩)
    have hl1 := wlk x.wb hi hk'
    have hl2 := wlk x.wb hk' hi
    repeat (first | refine gG ?_ | refine zN1 (fun hlen => ?_) | refine zN2 (fun hlen => ?_))
    refine x_perm (ch_out x sv sv (chB i k Q.ch) (chB i k Q.ch) (hR x bg' Q.now st') hj1 (fun _ _ _ _ _ => rfl) (fun _ _ _ => rfl)) ?_
    refine ac_draw [1, 1, 1, 1, 1, 1, 1, 1, 1, 1, 1, 1, 1, 1, 1, 1, 2] [0, 1, 2, 3, 4, 5, 6, 7, 8, 9, 10, 11, 12, 13, 14, 15, 16] (by kernel_rfl) (by kernel_rfl) ?_
    refine gW ?_
    apply w_q; (focus exact rfl); (focus exact rfl); focus (intro _; (refine zBda ?_); exact det_refl)
    apply w_q; (focus exact rfl); (focus exact rfl); focus (intro _; (refine lo_asp 8 (zLkr 155 keyWay ((i : Int), (k : Int)) hl1 ⟨_, _, rfl, ?_⟩)); exact det_refl)
    refine gW ?_
    apply w_q; (focus exact rfl); (focus exact rfl); focus (intro _; (refine zBda ?_); exact det_refl)
    apply w_q; (focus exact rfl); (focus exact rfl); focus (intro _; (refine lo_asp 8 (zLkr 155 keyWay ((i : Int), (k : Int)) hl1 ⟨_, _, rfl, ?_⟩)); exact det_refl)
    refine gW ?_
    apply w_l; (focus exact rfl); (focus exact rfl); (refine zStS ?_)
    refine w_nil ?_
    have hu1 := ch_out x sv sv (chB i k Q.ch) (chB1 i k Q.ch) (hR x bg' Q.now st') hj1 (fun a' b' _ _ h => chB1_ne Q.ch h) (fun _ _ _ => rfl)
    rw [chB1_at] at hu1
    refine x_perm ((List.Perm.of_eq rfl).trans hu1.symm) ?_
    repeat (first | refine gG ?_ | refine zN1 (fun hlen => ?_) | refine zN2 (fun hlen => ?_))
    refine x_perm (ch_out x sv sv (chB1 i k Q.ch) (chB1 i k Q.ch) (hR x bg' Q.now st') hj2 (fun _ _ _ _ _ => rfl) (fun _ _ _ => rfl)) ?_
    refine ac_draw [1, 1, 1, 1, 1, 1, 1, 1, 1, 1, 1, 1, 1, 1, 1, 2] [0, 1, 2, 3, 4, 5, 6, 7, 8, 9, 10, 11, 12, 13, 14, 15] (by kernel_rfl) (by kernel_rfl) ?_
    refine gW ?_
    apply w_q; (focus exact rfl); (focus exact rfl); focus (intro _; (refine zBda ?_); exact det_refl)
    apply w_q; (focus exact rfl); (focus exact rfl); focus (intro _; (refine lo_asp 8 (zLkr 155 keyWay ((k : Int), (i : Int)) hl2 ⟨_, _, rfl, ?_⟩)); exact det_refl)
    refine gW ?_
    apply w_q; (focus exact rfl); (focus exact rfl); focus (intro _; (refine zBda ?_); exact det_refl)
    apply w_q; (focus exact rfl); (focus exact rfl); focus (intro _; (refine lo_asp 8 (zLkr 155 keyWay ((k : Int), (i : Int)) hl2 ⟨_, _, rfl, ?_⟩)); exact det_refl)
    refine gW ?_
    apply w_l; (focus exact rfl); (focus exact rfl); (refine zStS ?_)
    refine w_nil ?_
    have hu2 := ch_out x sv sv (chB1 i k Q.ch) (chB i (k + 1) Q.ch) (hR x bg' Q.now st') hj2 (fun a' b' _ _ h => chB_ne Q.ch h) (fun _ _ _ => rfl)
    rw [chB_at] at hu2
    refine x_perm ((List.Perm.of_eq rfl).trans hu2.symm) ?_
    repeat (first | refine gG ?_ | refine zN1 (fun hlen => ?_) | refine zN2 (fun hlen => ?_))
    exact ⟨k + 1, hk', by omega, x_wk ⟨rfl, trivial⟩ rfl (by repeat (first | exact ag_refl | refine ag_upd rfl ?_ | refine ag_at rfl rfl ?_))⟩
  have hke : k = x.n := by have := of_decide_eq_false h; omega
  subst hke
  clear h hkn
  repeat (first | refine gG ?_ | refine zN1 (fun hlen => ?_) | refine zN2 (fun hlen => ?_))
  have hq : (hR x bg' Q.now st' ++ (kN x.n).flatMap (chF x sv (chB i x.n Q.ch))).Perm (allR x sv (begQ i Q)) := by
    rw [chB_end hb, ← hbg, ← hst, ← hcd]
    unfold begQ
    rw [if_neg (by rw [hb]; simp)]
  exact zGS (List.take_of_length_le (by rw [hq.length_eq, hk]; exact Nat.le_refl _)) hq
end Go.Proofs.Ytdogdjcjmhogmaa
namespace Go.Proofs.Ytdogdjcjmhogmaa
open Go.RowKit
/-- no deed -/
def badM (n : Nat) (d : Md) : Bool := (decide (d.src < 0) || decide (d.src ≥ (n : Int))) || (!decide (d.kind = 3) && ((decide (d.dst < 0) || decide (d.dst ≥ (n : Int))) || decide (d.dst = d.src)))
theorem badM_iff (n : Nat) (d : Md) : badM n d = false ↔ isP n d.src ∧ (d.kind = 3 ∨ (isP n d.dst ∧ d.dst ≠ d.src)) := by
  unfold badM isP
  by_cases h1 : d.src < 0 <;> by_cases h2 : d.src ≥ (n : Int) <;> by_cases h3 : d.kind = 3 <;> by_cases h4 : d.dst < 0 <;> by_cases h5 : d.dst ≥ (n : Int) <;> by_cases h6 : d.dst = d.src <;> simp [h1, h2, h3, h4, h5, h6] <;> omega
theorem noneM {n : Nat} {d : Md} (Q : Qs) (h : badM n d = true) : stepQ n d Q = Q := by
  have h1 : ¬ (isP n d.src ∧ (d.kind = 3 ∨ (isP n d.dst ∧ d.dst ≠ d.src))) := fun e => by
    rw [(badM_iff n d).2 e] at h; cases h
  unfold stepQ
  split
  · rename_i h2
    split
    · rename_i h3
      exact absurd ⟨h2, .inl h3⟩ h1
    · split
      · rename_i h4
        exact absurd ⟨h2, .inr h4⟩ h1
      · rfl
  · rfl
set_option maxRecDepth 100000 in
set_option maxHeartbeats 4000000 in
theorem mked_err (l : List Int) (ds : List Md) (he : markErr l ds ≠ 0) : AF Try.prog 35 [intRow l, mdRow ds] (· = .tup [noShot, iL (markErr l ds)]) := by
  unfold markErr at he ⊢
  cases d2 : decide (((l.length : Nat) : Int) > 8)
  rotate_left
  · rw [if_pos (.inl (by have := of_decide_eq_true d2; omega))]
    refine af_enter tok Try.func35 Try.ntmps35 Try.results35 rfl (by kernel_rfl) rfl rfl fun F hX => ?_
    repeat (first | refine gG ?_ | refine zN1 (fun hlen => ?_) | refine zN2 (fun hlen => ?_) | refine zSub ?_ | refine zAl (fun _ => ?_) | refine zBf ?_ | refine zAp (fun _ => ?_))
    first | refine zR ?_ | refine zQ ?_
    rfl
  have n2 := of_decide_eq_false d2
  cases d3 : decide (((ds.length : Nat) : Int) > 400)
  rotate_left
  · rw [if_pos (.inr (by have := of_decide_eq_true d3; omega))]
    refine af_enter tok Try.func35 Try.ntmps35 Try.results35 rfl (by kernel_rfl) rfl rfl fun F hX => ?_
    repeat (first | refine gG ?_ | refine zN1 (fun hlen => ?_) | refine zN2 (fun hlen => ?_) | refine zSub ?_ | refine zAl (fun _ => ?_) | refine zBf ?_ | refine zAp (fun _ => ?_))
    first | refine zR ?_ | refine zQ ?_
    rfl
  have n3 := of_decide_eq_false d3
  rw [if_neg (by omega)] at he ⊢
  cases d4 : l.any outC
  · rw [d4] at he; exact absurd rfl he
  rw [if_pos rfl]
  clear he
  refine af_enter tok Try.func35 Try.ntmps35 Try.results35 rfl (by kernel_rfl) rfl rfl fun F hX => ?_
  repeat (first | refine gG ?_ | refine zN1 (fun hlen => ?_) | refine zN2 (fun hlen => ?_) | refine zSub ?_ | refine zAl (fun _ => ?_) | refine zBf ?_ | refine zAp (fun _ => ?_))
  rename_i b4 _ b6 _
  refine x_loop [5, 8, 43, 44, 45, 46, 47, 48, 49, 50, 51, 52, 53, 54] (fun k : Nat => [(43, .c (iL (k : Nat)))]) (fun _ => [reS b4, .box b6 3 [.c (iL (l.length : Nat))]]) (fun k => k ≤ l.length ∧ (l.take k).any outC = false) (fun k => l.length - k) 0 ⟨Nat.zero_le _, rfl⟩ ⟨rfl, trivial⟩ rfl ?_
  rintro k ⟨hk, hno⟩
  repeat (first | refine gG ?_ | refine zN1 (fun hlen => ?_) | refine zN2 (fun hlen => ?_) | refine zSub ?_ | refine zAl (fun _ => ?_) | refine zBx (fun _ => ?_) | refine zAp (fun _ => ?_))
  refine x_cond rfl (fun h => ?_) (fun h => ?_)
  · have hk' : k < l.length := by simpa using h
    obtain ⟨a, ha⟩ := nth hk'
    have hst := any_take (p := outC) ha
    rw [hno, Bool.false_or] at hst
    clear h
    repeat (first | refine gG ?_ | refine zN1 (fun hlen => ?_) | refine zN2 (fun hlen => ?_) | refine zSub ?_ | refine zAl (fun _ => ?_) | refine zBx (fun _ => ?_) | refine zAp (fun _ => ?_))
    refine zIx k hk' ?_
    repeat (first | refine gG ?_ | refine zN1 (fun hlen => ?_) | refine zN2 (fun hlen => ?_) | refine zSub ?_ | refine zAl (fun _ => ?_) | refine zBx (fun _ => ?_) | refine zAp (fun _ => ?_))
    refine zEl1 (ints_at ha) ?_
    cases e1 : decide (a < 0)
    · cases e2 : decide (a > 1000000)
      · have : outC a = false := by unfold outC; rw [e1, e2]; rfl
        rw [this] at hst
        repeat (first | refine gG ?_ | refine zN1 (fun hlen => ?_) | refine zN2 (fun hlen => ?_) | refine zSub ?_ | refine zAl (fun _ => ?_) | refine zBx (fun _ => ?_) | refine zAp (fun _ => ?_))
        exact ⟨k + 1, ⟨hk', hst⟩, by omega, x_wkd 2 ⟨rfl, trivial⟩ rfl (by repeat (first | exact ag_refl | refine ag_upd rfl ?_ | refine ag_at rfl rfl ?_))⟩
      · repeat (first | refine gG ?_ | refine zN1 (fun hlen => ?_) | refine zN2 (fun hlen => ?_) | refine zSub ?_ | refine zAl (fun _ => ?_) | refine zBx (fun _ => ?_) | refine zAp (fun _ => ?_))
        first | refine zR ?_ | refine zQ ?_
        rfl
    · repeat (first | refine gG ?_ | refine zN1 (fun hlen => ?_) | refine zN2 (fun hlen => ?_) | refine zSub ?_ | refine zAl (fun _ => ?_) | refine zBx (fun _ => ?_) | refine zAp (fun _ => ?_))
      first | refine zR ?_ | refine zQ ?_
      rfl
  · have hk' : k = l.length := by have : ¬ k < l.length := by simpa using h
                                  omega
    subst hk'
    rw [List.take_length, d4] at hno
    cases hno
end Go.Proofs.Ytdogdjcjmhogmaa
namespace Go.Proofs.Ytdogdjcjmhogmaa
open Go.RowKit
@[reducible] def wyC (b : Nat) (c : Ch) : Blk := .box b 157 [.c (intRow c.sent), .c (iL (c.got : Nat)), .c (iL c.mark), .c (.lit (.bool c.came)), .c (iL (c.atB : Nat))]
def wcF (x : Ry) (ch : Nat → Nat → Ch) (p : Nat × Nat) : Blk := wyC (x.wb p.1 p.2) (ch p.1 p.2)
theorem set_two {H R : List Blk} {a b a' b' : Blk} : ((H ++ (a :: b :: R)).set (H.length + 1) b').set H.length a' = H ++ (a' :: b' :: R) := by
  rw [List.set_append_right _ _ (by omega), List.set_append_right _ _ (Nat.le_refl _), Nat.sub_self, Nat.add_sub_cancel_left]
  rfl
theorem frz_fam {F : Frm} {τ : Nat → AV} {N : Nat} (x : Ry) (sv : Nat → Nat → Value) (ch : Nat → Nat → Ch) : ∀ (ks : List (Nat × Nat)) (H : List Blk), Wk F ⟨τ, H ++ ks.flatMap (chF x sv ch), N⟩ ⟨τ, H ++ ks.map (wcF x ch), N⟩
  | [], _ => Wk.refl _
  | p :: ks, H => by
    have h1 := wk_boxcell (F := F) (τ := τ) (N := N) (hp := H ++ (wyT (x.wb p.1 p.2) (sv p.1 p.2) (ch p.1 p.2) :: .row (sv p.1 p.2) 3 1 (ch p.1 p.2).sent.length ((ch p.1 p.2).sent.flatMap intTs) :: ks.flatMap (chF x sv ch))) H.length (H.length + 1) 0 (by omega) (b := x.wb p.1 p.2) (t := 157) (v := sv p.1 p.2) (e' := 3) (sz := 1) (m := (ch p.1 p.2).sent.length) (ts := (ch p.1 p.2).sent.flatMap intTs) (q := 9) (cs := [.own 9 (sv p.1 p.2), .c (iL ((ch p.1 p.2).got : Nat)), .c (iL (ch p.1 p.2).mark), .c (.lit (.bool (ch p.1 p.2).came)), .c (iL ((ch p.1 p.2).atB : Nat))]) (by simp) (by simp) rfl
    rw [set_two] at h1
    refine Wk.trans h1 ?_
    have h2 := wk_forget (F := F) (τ := τ) (N := N) (H := H ++ [wcF x ch p]) (a := .dead) (L := ks.flatMap (chF x sv ch))
    have h3 := frz_fam x sv ch ks (H ++ [wcF x ch p]) (F := F) (τ := τ) (N := N)
    have h4 := h2.trans h3
    rw [List.append_assoc, List.append_assoc] at h4
    exact h4
@[reducible] def fB (x : Ry) (b4 : Nat) (Q : Qs) : List Blk :=
  [.box x.bb 97 [.c (.row x.n 1 ((List.range x.n).map fun i => T.lit (.bool (Q.bg i))))], .box x.bn 22 [.c (intRow Q.now)], .box x.bs 22 [.c (.row x.n 1 ((List.range x.n).map fun i => iL (Q.st i)))], .box x.by_ 154 [.own 4 (.map (some x.my))], .mp x.my (mkeys pI (tabK (wpT x.wb) ((kN x.n).map cI))), reS b4]
theorem frz_rM {F : Frm} {τ : Nat → AV} {N : Nat} (x : Ry) (b4 : Nat) (sv : Nat → Nat → Value) (Q : Qs) : Wk F ⟨τ, hR x Q.bg Q.now Q.st ++ (reS b4 :: (kN x.n).flatMap (chF x sv Q.ch)), N⟩ ⟨τ, fB x b4 Q ++ (kN x.n).map (wcF x Q.ch), N⟩ := by
  have h1 := frz_fam (F := F) (τ := τ) (N := N) x sv Q.ch (kN x.n) (hR x Q.bg Q.now Q.st ++ [reS b4])
  rw [List.append_assoc, List.append_assoc] at h1
  refine Wk.trans h1 ?_
  generalize (kN x.n).map (wcF x Q.ch) = M
  refine Wk.trans (wk_boxcell 0 4 0 (by omega) rfl rfl rfl) ?_
  refine Wk.trans (wk_boxcell 1 5 0 (by omega) rfl rfl rfl) ?_
  refine Wk.trans (wk_boxcell 2 6 0 (by omega) rfl rfl rfl) ?_
  refine Wk.trans (wk_boxR 3 [.own 4 (.map (some x.my))] rfl (res_cons re_own res_nil)) ?_
  refine Wk.trans (wk_forget (H := (fB x b4 Q).take 4) (a := .dead) (L := .dead :: .dead :: .mp x.my (mkeys pI (tabK (wpT x.wb) ((kN x.n).map cI))) :: reS b4 :: M)) ?_
  refine Wk.trans (wk_forget (H := (fB x b4 Q).take 4) (a := .dead) (L := .dead :: .mp x.my (mkeys pI (tabK (wpT x.wb) ((kN x.n).map cI))) :: reS b4 :: M)) ?_
  refine Wk.trans (wk_forget (H := (fB x b4 Q).take 4) (a := .dead) (L := .mp x.my (mkeys pI (tabK (wpT x.wb) ((kN x.n).map cI))) :: reS b4 :: M)) ?_
  exact Wk.refl _
def dI (Q : Qs) (i m : Nat) : Bool := (List.range m).all fun k => decide (((k : Nat) : Int) = ((i : Nat) : Int)) || (Q.ch k i).came
theorem dI_succ (Q : Qs) (i m : Nat) : dI Q i (m + 1) = (dI Q i m && (decide (((m : Nat) : Int) = ((i : Nat) : Int)) || (Q.ch m i).came)) := by
  unfold dI
  rw [List.range_succ, List.all_append]
  simp
theorem okS_dI (n : Nat) (Q : Qs) (i : Nat) : okS n Q i = (Q.bg i && dI Q i n) := by
  unfold okS dI
  congr 1
  rw [Bool.eq_iff_iff]
  simp only [Bool.not_eq_true', List.any_eq_false, List.all_eq_true, List.mem_map, List.mem_range, Bool.or_eq_true, decide_eq_true_eq, oth, List.mem_filter, bne_iff_ne, ne_eq]
  constructor
  · intro h k hk
    by_cases e : k = i
    · exact .inl (by omega)
    · have := h _ ⟨k, ⟨hk, e⟩, rfl⟩
      exact .inr (by simpa using this)
  · rintro h _ ⟨k, ⟨hk, e⟩, rfl⟩
    rcases h k hk with h1 | h1
    · exact absurd (by omega) e
    · simp [h1]
def lfS (n : Nat) (Q : Qs) (i m : Nat) : Nat := ((List.range i).flatMap fun i => (List.range n).map fun k => posN ((Q.ch k i).sent.drop (Q.ch k i).got)).sum + ((List.range m).map fun k => posN ((Q.ch k i).sent.drop (Q.ch k i).got)).sum
theorem lfS_succ (n : Nat) (Q : Qs) (i m : Nat) : lfS n Q i (m + 1) = lfS n Q i m + posN ((Q.ch m i).sent.drop (Q.ch m i).got) := by
  unfold lfS
  rw [List.range_succ (n := m), List.map_append, List.sum_append]
  simp
  omega
theorem lfS_next (n : Nat) (Q : Qs) (i : Nat) : lfS n Q i n = lfS n Q (i + 1) 0 := by
  unfold lfS
  rw [List.range_succ (n := i), List.flatMap_append, List.sum_append]
  simp
theorem lfS_end (n : Nat) (Q : Qs) : lfS n Q n 0 = leftN n Q := by unfold lfS leftN; simp
theorem oth_succ (k i : Nat) : oth (k + 1) i = if k = i then oth k i else oth k i ++ [k] := by
  unfold oth
  rw [List.range_succ, List.filter_append]
  by_cases h : k = i
  · subst h; simp
  · simp [h]
theorem all_okS {n : Nat} {Q : Qs} (h : dnT n Q n = true) {i : Nat} (hi : i < n) : okS n Q i = true := List.all_eq_true.1 h i (List.mem_range.2 hi)
theorem ok_came {n : Nat} {Q : Qs} {i a : Nat} (h : okS n Q i = true) (ha : a < n) (hne : a ≠ i) : (Q.ch a i).came = true := by
  unfold okS at h
  simp only [Bool.and_eq_true, Bool.not_eq_true', List.any_eq_false, List.mem_map, oth, List.mem_filter, List.mem_range, bne_iff_ne, ne_eq] at h
  have := h.2 _ ⟨a, ⟨ha, hne⟩, rfl⟩
  simpa using this
/-- the out box, its rows its own -/
@[reducible] def obQ (b : Nat) (v1 v2 : Value) (l : List Int) (lf : Int) : Blk := .box b 80 [.c (.lit (.bool true)), .own 7 v1, .own 8 v2, .c (intRow l), .c (iL lf)]
def wyP (Q : Qs) (i k : Nat) : List T := (oth k i).map fun a => intRow (recC true (Q.ch a i))
theorem perm_r2 {H R : List Blk} {s a b : Blk} : ((H ++ (s :: R)) ++ [a] ++ [b]).Perm (H ++ (s :: a :: b :: R)) := by
  simpa using perm_parts [H, [s], R, [a], [b]] [0, 1, 3, 4, 2] (show List.Perm _ (List.range 5) by decide)
theorem perm_r3 {H R : List Blk} {s a b c : Blk} : ((H ++ (s :: a :: b :: R)) ++ [c]).Perm (H ++ (s :: a :: b :: c :: R)) := by
  simpa using perm_parts [H, [s], [a], [b], R, [c]] [0, 1, 2, 3, 5, 4] (show List.Perm _ (List.range 6) by decide)
section
variable {P : Program} {F : Frm} {L : Tab} {d : Option Tmp} {ty : TypeId} {pos : String} {aft : Array Edge} {g : Option (Nat × Bool)} {ρ : Operand → AV} {hp : List Blk} {K : AV → List Blk → Prop}
/-- a part of a row of numbers between two bounds -/
theorem zPmi {t el : TypeId} {ti te : TI} {x y z : Operand} {l : List Int} {k k' : IntKind} {a b : Int} (m q : Nat) (hm : m ≤ q) (hq : q ≤ l.length) (hK : K (.c (intRow ((l.take q).drop m))) hp) (hz : a = (m : Int) := by first | exact rfl | assumption) (hz' : b = (q : Int) := by first | exact rfl | assumption) (hL : TabOk P L := by exact tok) (hx : ρ x = .c (intRow l) := by exact rfl) (hy : ρ y = .c (.lit (.int k a)) := by exact rfl) (hy' : ρ z = .c (.lit (.int k' b)) := by exact rfl) (ht : L.look t = some ti := by exact rfl) (hd : ti.d = .slice el := by exact rfl) (hte : L.look el = some te := by exact rfl) (hsz : te.size = 1 := by exact rfl) :
    LO P F ⟨d, .slice t x (some y) (some z) none, ty, pos, aft, g⟩ ρ hp K := by
  refine LO.same (fun M e w he _ => ?_) hK
  have h1 := he x (by simp [Op.operands])
  rw [hx] at h1
  simp only [RA] at h1
  have h2 := he y (by simp [Op.operands])
  rw [hy] at h2
  have h4 := he z (by simp [Op.operands])
  rw [hy'] at h4
  simp only [RA, RT] at h2 h4
  have h3 := h1
  simp only [intRow, RT] at h3
  obtain ⟨A, c, xs, hu, hc, _⟩ := h3
  rw [hu] at h1
  have hp := rt_part (l := m) (h := q) h1 hm hq
  refine ⟨_, ?_, by
    simp only [RA]
    have e1 : ((l.flatMap intTs).drop (m * 1)).take ((q - m) * 1) = ((l.take q).drop m).flatMap intTs := by
      simp [ints_map, List.map_drop, List.map_take, List.drop_take]
    rw [e1] at hp
    have e3 : ((l.take q).drop m).length = q - m := by simp; omega
    simpa [intRow, e3] using hp⟩
  subst hz
  subst hz'
  have hb := run_sliceBound (P := P) (w := w) k' (q : Int) c .sliceAcap (by omega) (by omega)
  have hb2 := run_sliceBound (P := P) (w := w) k (m : Int) q .sliceB (by omega) (by omega)
  simp [execOp, Instr.sliceAt, Instr.slice, Instr.sliceBounds, hu, h2, h4, run_underlying (hL.slice ht hd), hL.sizeOf hte, hb, hb2, hsz]
end
theorem perm_r5 {H R : List Blk} {s a b c e z : Blk} : ((H ++ (s :: a :: b :: c :: e :: R)) ++ [z]).Perm (H ++ (s :: a :: b :: c :: e :: z :: R)) := by
  simpa using perm_parts [H, [s], [a], [b], [c], [e], R, [z]] [0, 1, 2, 3, 4, 5, 7, 6] (show List.Perm _ (List.range 8) by decide)
end Go.Proofs.Ytdogdjcjmhogmaa
