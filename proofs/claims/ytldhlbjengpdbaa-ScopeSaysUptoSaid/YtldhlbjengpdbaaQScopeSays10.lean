/-
  Texts of this proof, part 10: Ab47 Wsg Wsh Wsi Wsk Tza.
-/
import Derived.Test.YtldhlbjengpdbaaQScopeSays9
import Derived.Laws.IdiomRangeMap
import Derived.Lib.AppendStr
import Derived.Lib.MinMax
namespace Go.Proofs.Ytldhlbjengpdbaa
open Go.RowKit
def Dj (x y : Blk) : Prop := ∀ b, x.blk = some b → y.blk ≠ some b
theorem Dj.symm {x y : Blk} (h : Dj x y) : Dj y x := fun b h1 h2 => h b h2 h1
structure HpOk (F : Frm) (M : Mm) (hp : List Blk) (w : World) : Prop where
  mem : MemOk M w
  ext : Ext F.may F.M0 M
  frm : Keeps F w
  at_ : ∀ x ∈ hp, BlkOk M w x
  sep : hp.Pairwise Dj
  out : ∀ x ∈ hp, ∀ b, x.blk = some b → F.may b ∧ ∀ p : Addr, p.block = b → M p = none
section
variable {F : Frm} {M : Mm} {hp hp' : List Blk} {w : World}
theorem HeapOk.all (h : HeapOk F M hp w) : HpOk F M hp w := by
  refine ⟨h.mem, h.ext, h.frm, fun x hx => ?_, ?_, fun x hx b hb => ?_⟩
  · obtain ⟨i, hi⟩ := List.getElem?_of_mem hx
    exact h.at_ i x hi
  · rw [List.pairwise_iff_getElem]
    intro i j hi hj hij b h1 h2
    have := h.sep i j _ _ b (List.getElem?_eq_getElem hi) (List.getElem?_eq_getElem hj) h1 h2
    omega
  · obtain ⟨i, hi⟩ := List.getElem?_of_mem hx
    exact h.out i x b hi hb
theorem HpOk.heap (h : HpOk F M hp w) : HeapOk F M hp w := by
  have hs := List.pairwise_iff_getElem.1 h.sep
  refine ⟨h.mem, h.ext, h.frm, fun i x hi => h.at_ x (List.mem_of_getElem? hi), fun i j x y b hi hj hx hy => ?_, fun i x b hi hb => h.out x (List.mem_of_getElem? hi) b hb⟩
  obtain ⟨hi', rfl⟩ := List.getElem?_eq_some_iff.1 hi
  obtain ⟨hj', rfl⟩ := List.getElem?_eq_some_iff.1 hj
  rcases Nat.lt_trichotomy i j with hlt | rfl | hlt
  · exact absurd hy (hs i j hi' hj' hlt b hx)
  · rfl
  · exact absurd hx (hs j i hj' hi' hlt b hy)
theorem sub_gx2 {A B : List Blk} (h : HeapOk F M (A ++ B) w) : ∀ x ∈ globTab, ¬ ∃ (i : Nat) (y : Blk), A[i]? = some y ∧ y.blk = some x.1 := by
  rintro x hx ⟨i, y, h1, h2⟩
  obtain ⟨t, fr, e⟩ := F.G x hx
  rcases (h.all.out y (List.mem_append_left _ (List.mem_of_getElem? h1)) x.1 h2).1 with h4 | h4
  · exact F.GX x hx h4
  · have := (Array.getElem?_eq_some_iff.1 e).1; omega
theorem HeapOk.part {A B : List Blk} (h : HeapOk F M (A ++ B) w) : HeapOk (subF M A w h.glob (sub_gx2 h)) M A w := by
  have hq := h.all
  refine HpOk.heap ⟨h.mem, Ext.refl _ _, ⟨rfl, rfl, rfl, Nat.le_refl _, fun _ _ _ => rfl⟩, fun x hx => hq.at_ x (List.mem_append_left _ hx), (List.pairwise_append.1 hq.sep).1, fun x hx b hb => ?_⟩
  obtain ⟨i, hi⟩ := List.getElem?_of_mem hx
  exact ⟨.inl ⟨i, x, hi, hb⟩, (hq.out x (List.mem_append_left _ hx) b hb).2⟩
end
section
variable {P : Program} {F : Frm} {Q : Exit → AS → Prop} {τ : Nat → AV} {hp hp' : List Blk} {N : Nat}
/-- what a variable holds, said otherwise -/
theorem wk_boxR (i : Nat) {b : Nat} {t : TypeId} {cs : List AV} (cs' : List AV) (hi : hp[i]? = some (.box b t cs)) (hz : Res cs cs') : Wk F ⟨τ, hp, N⟩ ⟨τ, hp.set i (.box b t cs'), N⟩ := by
  intro M a w hr
  refine ⟨M, hr.tmps, hr.size, hr.defers, hr.heap.step i rfl rfl rfl (Nat.le_refl _) (fun _ _ _ => rfl) (Ext.refl _ _) (fun p v h1 h2 => by rw [h2] at h1; cases h1) (fun j hj => by rw [List.getElem?_set_ne (Ne.symm hj)]) (fun x' hx' => ?_)⟩
  have hlt : i < hp.length := (List.getElem?_eq_some_iff.1 hi).1
  rw [List.getElem?_set_self hlt] at hx'
  obtain rfl : Blk.box b t cs' = x' := by injection hx'
  obtain ⟨xs, h1, h2, h3⟩ := hr.heap.at_ i _ hi
  exact ⟨⟨xs, h1, hz _ _ h2, h3⟩, fun b' hb' => .inl ⟨_, hi, hb'⟩⟩
theorem x_boxR {c : Go.Code} (i : Nat) (cs' : List AV) {b : Nat} {t : TypeId} {cs : List AV} (h : AC P F c Q ⟨τ, hp', N⟩) (hi : hp[i]? = some (.box b t cs) := by exact rfl) (hz : Res cs cs' := by repeat (first | exact res_nil | apply res_cons | exact re_own | exact re_ptr | exact re_refl)) (hf : evl (hp.set i (.box b t cs')) = some hp' := by exact rfl) : AC P F c Q ⟨τ, hp, N⟩ :=
  ac_wk (wk_boxR i cs' hi hz) (by rw [← evl_eq hf]; exact h)
end
section
variable {P : Program} {F : Frm} {L : Tab} {d : Option Tmp} {ty : TypeId} {pos : String} {aft : Array Edge} {g : Option (Nat × Bool)} {ρ : Operand → AV} {hp : List Blk} {K : AV → List Blk → Prop}
theorem ra_o {M : Mm} {j : Nat} {v u : Value} (h : RA M (.own j v) u) : RT M (.lit v) u := by simp only [RA, RT] at h ⊢; exact h.1
end
end Go.Proofs.Ytldhlbjengpdbaa
namespace Go.Proofs.Ytldhlbjengpdbaa
open Go.RowKit
theorem len_sum {α : Type} (m : α → Nat) (l : List α) (h : ∀ a, 1 ≤ m a) : l.length ≤ (l.map m).sum := by
  induction l with
  | nil => exact Nat.le_refl _
  | cons a l ih => rw [List.length_cons, List.map_cons, List.sum_cons]; have := h a; omega
theorem flat_sum {α β : Type} (f : α → List β) (m : α → Nat) (l : List α) (h : ∀ a, (f a).length ≤ m a) : (l.flatMap f).length ≤ (l.map m).sum := by
  induction l with
  | nil => exact Nat.le_refl _
  | cons a l ih => rw [List.flatMap_cons, List.length_append, List.map_cons, List.sum_cons]; have := h a; omega
theorem Pr.makers_le (p : Pr) : p.makers.length ≤ p.mass := by
  have h := flat_sum (fun d : Da => d.makes.map Mk.name) Da.mass p.datas fun d => by
    rw [List.length_map]
    have := len_sum Mk.mass d.makes fun a => by unfold Mk.mass; omega
    unfold Da.mass
    omega
  unfold Pr.makers Pr.mass
  omega
theorem Pr.calls_le (p : Pr) : p.calls.length ≤ p.mass := by
  have h := flat_sum (fun d : Tr => d.funcs.map Fu.name) Tr.mass p.traits fun d => by
    rw [List.length_map]
    have := len_sum Fu.mass d.funcs fun a => by unfold Fu.mass; omega
    unfold Tr.mass
    omega
  have h2 := len_sum Fu.mass p.funcs fun a => by unfold Fu.mass; omega
  unfold Pr.calls Pr.mass
  rw [List.length_append, List.length_map]
  omega
theorem Pr.acts_le (p : Pr) : p.acts.length ≤ p.mass := by
  have h2 := len_sum Ac.mass p.actors fun a => by unfold Ac.mass; omega
  unfold Pr.acts Pr.mass
  rw [List.length_map]
  omega
@[reducible] def rsB (b1 b2 b3 br : Nat) (M1 M2 M3 : List (ByteArray × T)) (z : Option Nat) : List Blk := [.mp b1 (mkeys Value.string M1), .mp b2 (mkeys Value.string M2), .mp b3 (mkeys Value.string M3), .box br 90 [.own 0 (.map (some b1)), .own 1 (.map (some b2)), .own 2 (.map (some b3)), .c (.lit (.map z))]]
def Made (E : Env) (r : AV) (hs : List Blk) : Prop := ∃ b1 b2 b3 br M1 M2 M3, r = .ptr 3 br 0 ∧ hs = rsB b1 b2 b3 br M1 M2 M3 none ∧ SeenOk M1 E.mkr ∧ SeenOk M2 E.ca ∧ SeenOk M3 E.ac
structure RsJ (E : Env) where
  b1 : Nat
  b2 : Nat
  b3 : Nat
  br : Nat
  M1 : List (ByteArray × T)
  M2 : List (ByteArray × T)
  M3 : List (ByteArray × T)
  h1 : SeenOk M1 E.mkr
  h2 : SeenOk M2 E.ca
  h3 : SeenOk M3 E.ac
theorem rs_res {b1 b2 b3 i j k : Nat} {z : Option Nat} : Res [.own i (.map (some b1)), .own j (.map (some b2)), .own k (.map (some b3)), .c (.lit (.map z))] [.own 0 (.map (some b1)), .own 1 (.map (some b2)), .own 2 (.map (some b3)), .c (.lit (.map z))] := res_cons re_own (res_cons re_own (res_cons re_own (res_cons re_refl res_nil)))
theorem rs_res4 {b1 b2 b3 b4 i j k m : Nat} : Res [.own i (.map (some b1)), .own j (.map (some b2)), .own k (.map (some b3)), .own m (.map (some b4))] [.own 0 (.map (some b1)), .own 1 (.map (some b2)), .own 2 (.map (some b3)), .c (.lit (.map (some b4)))] := res_cons re_own (res_cons re_own (res_cons re_own (res_cons (fun _ _ h => by simp only [RA]; exact ra_o h) res_nil)))
set_option maxRecDepth 100000 in
set_option maxHeartbeats 8000000 in
theorem newR_ag (p : Pr) (hp : p.mass ≤ 1048576) : AG Try.prog 19 [.c p.t] [] (Made p.env) := by
  have c1 := makers_af p (Nat.le_trans p.makers_le hp)
  have c2 := calls_af p (Nat.le_trans p.calls_le hp)
  have c3 := acts_af p (Nat.le_trans p.acts_le hp)
  have s1 := set_ag p.makers (Nat.le_trans p.makers_le hp)
  have s2 := set_ag p.calls (Nat.le_trans p.calls_le hp)
  have s3 := set_ag p.acts (Nat.le_trans p.acts_le hp)
  have hE : p.env = ⟨p.makers, p.calls, p.acts⟩ := rfl
  rw [hE]
  clear hE
  generalize p.makers = LM at *
  generalize p.calls = LC at *
  generalize p.acts = LA at *
  obtain ⟨nm, vr, us, ds, trs, ims, fus, acs⟩ := p
  refine ag_enter (4) tok Try.func19 Try.ntmps19 Try.results19 rfl (by kernel_rfl) rfl fun F => ?_
  repeat (first | refine gG ?_ | refine zBf ?_)
  refine x_join (A := RsJ ⟨LM, LC, LA⟩) [2, 3, 4, 5, 6, 7, 8, 9, 10, 11, 12, 13] (fun q => [(2, .ptr 3 q.br 0)]) (fun q => rsB q.b1 q.b2 q.b3 q.br q.M1 q.M2 q.M3 none) (fun q => ?_) ?_
  rotate_left
  · skip
    refine ac_drawT3 [0, 0, 2, 0, 0, 2, 0, 0, 2, 2, 2, 2] (.fin [0, 1, 3, 6, 2, 4, 5, 7, 8, 9, 10, 11]) (by kernel_rfl) (by kernel_rfl) ?_
    refine wtt_fin ?_
    refine gW ?_
    apply w_p; (focus exact rfl); (focus exact rfl); focus (intro _; (refine zCall c1 ?_; rintro _ rfl); exact det_refl)
    refine gW ?_
    apply w_l; (focus exact rfl); (focus exact rfl); (refine zCallG [] s1 ?_; rintro _ _ ⟨m1, S1, rfl, rfl, z1⟩; refine ⟨.own 0 (.map (some m1)), _, re_own, rfl, rfl, ?_⟩)
    apply w_p; (focus exact rfl); (focus exact rfl); focus (intro _; (refine zCall c2 ?_; rintro _ rfl); exact det_refl)
    apply w_l; (focus exact rfl); (focus exact rfl); (refine zCallG [] s2 ?_; rintro _ _ ⟨m2, S2, rfl, rfl, z2⟩; refine ⟨.own 0 (.map (some m2)), _, re_own, rfl, rfl, ?_⟩)
    apply w_p; (focus exact rfl); (focus exact rfl); focus (intro _; (refine zCall c3 ?_; rintro _ rfl); exact det_refl)
    apply w_l; (focus exact rfl); (focus exact rfl); (refine zCallG [] s3 ?_; rintro _ _ ⟨m3, S3, rfl, rfl, z3⟩; refine ⟨.own 0 (.map (some m3)), _, re_own, rfl, rfl, ?_⟩)
    apply w_l; (focus exact rfl); (focus exact rfl); (refine zBd ?_)
    apply w_l; (focus exact rfl); (focus exact rfl); (first | (refine zkL ?_; first | refine zL1 ?_ | refine zL2 ?_ | refine zL3 ?_ | refine zLp ?_) | refine zM ?_ | (refine zkF ?_; first | refine zF1 ?_ | refine zF2 ?_ | refine zF3 ?_) | refine zA ?_ | (refine zkB ?_; first | refine zC5 ?_ | refine zC6 ?_ | refine zC1 ?_ | refine zC2 ?_ | refine zC3 ?_ | refine zC4 ?_ | refine zS5 ?_ | refine zS6 ?_ | refine zS1 ?_ | refine zS2 ?_ | refine zS3 ?_ | refine zS4 ?_ | refine zInc ?_ | refine zQ1 ?_ | refine zQ2 ?_ | refine zQ3 ?_ | refine zQ4 ?_ | refine zQ5 ?_ | refine zQ6 ?_) | (refine zkI ?_; first | refine zN1 (fun hlen => ?_) | refine zN2 (fun hlen => ?_) | refine zN3 ?_ | refine zN4 ?_ | refine zAp (fun _ => ?_)) | refine zS ?_ | refine zAl (fun _ => ?_) | refine zBx (fun _ => ?_) | refine zPt ?_ | refine zPf ?_ | refine zE ?_ | refine zEA ?_ | refine zNot ?_ | refine zBd ?_ | refine zBs ?_ | refine zFn ?_ | refine zK1 ?_ | refine zK2 ?_)
    apply w_l; (focus exact rfl); (focus exact rfl); (refine zA ?_)
    refine w_nil ?_
    first
    | exact ⟨⟨m1, m2, m3, _, S1, S2, S3, z1, z2, z3⟩, Wk.trans (wk_boxR 3 [.own 0 (.map (some m1)), .own 1 (.map (some m2)), .own 2 (.map (some m3)), .c (.lit (.map none))] rfl rs_res) (Wk.trans (wk_pick (hs := rsB m1 m2 m3 _ S1 S2 S3 none) [0, 1, 2, 3] rfl rfl) (x_wk ⟨rfl, trivial⟩ rfl (by repeat (first | exact ag_refl | refine ag_upd rfl ?_ | refine ag_at rfl rfl ?_))))⟩
    | exact ⟨⟨m1, m2, m3, _, S1, S2, S3, z1, z2, z3⟩, Wk.trans (wk_boxR 3 [.own 0 (.map (some m1)), .own 1 (.map (some m2)), .own 2 (.map (some m3)), .c (.lit (.map none))] rfl rs_res) (Wk.trans (wk_pick (hs := rsB m1 m2 m3 _ S1 S2 S3 none) [0, 2, 1, 3] rfl rfl) (x_wk ⟨rfl, trivial⟩ rfl (by repeat (first | exact ag_refl | refine ag_upd rfl ?_ | refine ag_at rfl rfl ?_))))⟩
    | exact ⟨⟨m1, m2, m3, _, S1, S2, S3, z1, z2, z3⟩, Wk.trans (wk_boxR 3 [.own 0 (.map (some m1)), .own 1 (.map (some m2)), .own 2 (.map (some m3)), .c (.lit (.map none))] rfl rs_res) (Wk.trans (wk_pick (hs := rsB m1 m2 m3 _ S1 S2 S3 none) [1, 0, 2, 3] rfl rfl) (x_wk ⟨rfl, trivial⟩ rfl (by repeat (first | exact ag_refl | refine ag_upd rfl ?_ | refine ag_at rfl rfl ?_))))⟩
    | exact ⟨⟨m1, m2, m3, _, S1, S2, S3, z1, z2, z3⟩, Wk.trans (wk_boxR 3 [.own 0 (.map (some m1)), .own 1 (.map (some m2)), .own 2 (.map (some m3)), .c (.lit (.map none))] rfl rs_res) (Wk.trans (wk_pick (hs := rsB m1 m2 m3 _ S1 S2 S3 none) [1, 2, 0, 3] rfl rfl) (x_wk ⟨rfl, trivial⟩ rfl (by repeat (first | exact ag_refl | refine ag_upd rfl ?_ | refine ag_at rfl rfl ?_))))⟩
    | exact ⟨⟨m1, m2, m3, _, S1, S2, S3, z1, z2, z3⟩, Wk.trans (wk_boxR 3 [.own 0 (.map (some m1)), .own 1 (.map (some m2)), .own 2 (.map (some m3)), .c (.lit (.map none))] rfl rs_res) (Wk.trans (wk_pick (hs := rsB m1 m2 m3 _ S1 S2 S3 none) [2, 0, 1, 3] rfl rfl) (x_wk ⟨rfl, trivial⟩ rfl (by repeat (first | exact ag_refl | refine ag_upd rfl ?_ | refine ag_at rfl rfl ?_))))⟩
    | exact ⟨⟨m1, m2, m3, _, S1, S2, S3, z1, z2, z3⟩, Wk.trans (wk_boxR 3 [.own 0 (.map (some m1)), .own 1 (.map (some m2)), .own 2 (.map (some m3)), .c (.lit (.map none))] rfl rs_res) (Wk.trans (wk_pick (hs := rsB m1 m2 m3 _ S1 S2 S3 none) [2, 1, 0, 3] rfl rfl) (x_wk ⟨rfl, trivial⟩ rfl (by repeat (first | exact ag_refl | refine ag_upd rfl ?_ | refine ag_at rfl rfl ?_))))⟩
  · obtain ⟨b1, b2, b3, br, M1, M2, M3, z1, z2, z3⟩ := q
    repeat (first | refine gG ?_ | refine zBx (fun _ => ?_))
    refine zG ?_
    exact ⟨b1, b2, b3, br, M1, M2, M3, rfl, rfl, z1, z2, z3⟩
end Go.Proofs.Ytldhlbjengpdbaa
namespace Go.Proofs.Ytldhlbjengpdbaa
open Go.RowKit
theorem bnd_nil : BndOk [] [] := fun s => rfl
set_option maxRecDepth 100000 in
set_option maxHeartbeats 4000000 in
theorem exprS_ag (E : Env) (e : Ex) (B : List ByteArray) (b1 b2 b3 br : Nat) (M1 M2 M3 : List (ByteArray × T)) (z : Option Nat) (h1 : SeenOk M1 E.mkr) (h2 : SeenOk M2 E.ca) (h3 : SeenOk M3 E.ac) (hB : B.length + e.mass ≤ 1048576) :
    AG Try.prog 20 [.ptr 3 br 0, .c (strRow B), .c e.t] (rsB b1 b2 b3 br M1 M2 M3 z) (fun r hs => ∃ z', r = .tup [.c (.lit (.int .i64 ((e.sc E B).getD 0))), .c (.lit (.bool (e.sc E B).isSome))] ∧ hs = rsB b1 b2 b3 br M1 M2 M3 z') := by
  have hvis := fun b4 mb' h => visitS_ag E e b1 b2 b3 b4 br M1 M2 M3 mb' B h1 h2 h3 h hB
  clear h1 h2 h3
  generalize e.sc E B = o at *
  obtain ⟨k0, n0, t0, ns0, ys0, l0, rs0, p0⟩ := e
  refine ag_enter (4) tok Try.func20 Try.ntmps20 Try.results20 rfl (by kernel_rfl) rfl fun F => ?_
  repeat (first | refine gG ?_ | refine zN1 (fun hlen => ?_) | refine zN2 (fun hlen => ?_) | refine zBf ?_)
  refine zMm (fun b4 => ?_)
  repeat (first | refine gG ?_ | refine zN1 (fun hlen => ?_) | refine zN2 (fun hlen => ?_) | refine zBx (fun _ => ?_))
  refine x_loop [9, 16, 17, 18, 19, 20, 21, 22, 23, 24, 25, 26, 27] (fun y : Nat × List (ByteArray × T) => [(16, .c (.lit (.int .i64 (y.1 : Nat))))]) (fun y => hdB b1 b2 b3 b4 br M1 M2 M3 y.2) (fun y => y.1 ≤ B.length ∧ BndOk y.2 (B.take y.1)) (fun y => B.length - y.1) (0, []) ⟨Nat.zero_le _, bnd_nil⟩ ⟨rfl, trivial⟩ rfl ?_
  rintro ⟨k, mb1⟩ ⟨hk, hb1⟩
  dsimp only at hk hb1 ⊢
  repeat (first | refine gG ?_ | refine zN1 (fun hlen => ?_) | refine zN2 (fun hlen => ?_) | refine zBx (fun _ => ?_))
  refine x_cond rfl (fun h => ?_) (fun h => ?_)
  · have hk' : k < B.length := by simpa using h
    obtain ⟨s, hsk⟩ := nth hk'
    have hlk := hb1 s
    have htl := times_le s (B.take k)
    have htn : B.take (k + 1) = B.take k ++ [s] := by rw [List.take_add_one, hsk]; rfl
    have hte : times s (B.take (k + 1)) = times s (B.take k) + 1 := by rw [htn, times_app]; simp [times]
    have hnx : BndOk (mput s (.lit (.int .i64 ((times s (B.take k) + 1 : Nat) : Int))) mb1) (B.take (k + 1)) := hb1.put s _ (by rw [hte]) (fun x hx => by rw [htn, times_app]; simp [times, Ne.symm hx])
    rw [List.length_take] at htl
    have hbnd : times s (B.take k) < 9223372036854775807 := by omega
    clear h hb1 htn hte hvis
    generalize times s (B.take k) = m at *
    repeat (first | refine gG ?_ | refine zN1 (fun hlen => ?_) | refine zN2 (fun hlen => ?_) | refine zBx (fun _ => ?_))
    refine zIx k hk' ?_
    repeat (first | refine gG ?_ | refine zN1 (fun hlen => ?_) | refine zN2 (fun hlen => ?_) | refine zBx (fun _ => ?_))
    refine zEl1 (str_at1 hsk) ?_
    repeat (first | refine gG ?_ | refine zN1 (fun hlen => ?_) | refine zN2 (fun hlen => ?_) | refine zBx (fun _ => ?_))
    refine zLks 9 3 hlk ?_
    repeat (first | refine gG ?_ | refine zN1 (fun hlen => ?_) | refine zN2 (fun hlen => ?_) | refine zBx (fun _ => ?_))
    refine zUps 9 3 ?_
    repeat (first | refine gG ?_ | refine zN1 (fun hlen => ?_) | refine zN2 (fun hlen => ?_) | refine zBx (fun _ => ?_))
    exact ⟨(k + 1, _), ⟨hk', hnx⟩, by simp only; omega, x_wkd 5 ⟨rfl, trivial⟩ rfl (by repeat (first | exact ag_refl | refine ag_upd rfl ?_ | refine ag_at rfl rfl ?_))⟩
  · have hk' : k = B.length := by
      have : ¬ k < B.length := by simpa using h
      omega
    subst hk'
    clear h
    rw [List.take_length] at hb1
    have hc := hvis b4 mb1 hb1
    clear hvis
    repeat (first | refine gG ?_ | refine zN1 (fun hlen => ?_) | refine zN2 (fun hlen => ?_) | refine zBx (fun _ => ?_))
    refine zCallG [0, 1, 2, 3, 4] hc ?_
    rintro _ _ ⟨mb2, rfl, rfl, hb2⟩
    refine ⟨_, _, re_refl, rfl, rfl, ?_⟩
    repeat (first | refine zNil ?_ | refine zOp ?_ | refine zOpn ?_ | refine zNo ?_ | refine zNon ?_ | refine zUn ?_ | refine zUnn ?_ | refine zYes ?_ | refine zYesn ?_ | (refine zkL ?_; first | refine zL1 ?_ | refine zL2 ?_ | refine zL3 ?_ | refine zLp ?_) | refine zM ?_ | (refine zkF ?_; first | refine zF1 ?_ | refine zF2 ?_ | refine zF3 ?_) | refine zA ?_ | (refine zkB ?_; first | refine zC5 ?_ | refine zC6 ?_ | refine zC1 ?_ | refine zC2 ?_ | refine zC3 ?_ | refine zC4 ?_ | refine zS5 ?_ | refine zS6 ?_ | refine zS1 ?_ | refine zS2 ?_ | refine zS3 ?_ | refine zS4 ?_ | refine zInc ?_ | refine zQ1 ?_ | refine zQ2 ?_ | refine zQ3 ?_ | refine zQ4 ?_ | refine zQ5 ?_ | refine zQ6 ?_) | (refine zkI ?_; first | refine zN1 (fun hlen => ?_) | refine zN2 (fun hlen => ?_) | refine zN3 ?_ | refine zN4 ?_ | refine zAp (fun _ => ?_)) | refine zS ?_ | refine zAl (fun _ => ?_) | refine zBx (fun _ => ?_) | refine zPt ?_ | refine zPf ?_ | refine zE ?_ | refine zEA ?_ | refine zNot ?_ | refine zBd ?_ | refine zBs ?_ | refine zFn ?_ | refine zK1 ?_ | refine zK2 ?_ | refine ac_seq ?_ | refine ac_block ?_ | refine ac_region ?_ | refine ac_skip ?_ | refine ac_exit ?_ | refine zT ?_ | refine zF ?_)
    refine x_boxR 3 [.own 0 (.map (some b1)), .own 1 (.map (some b2)), .own 2 (.map (some b3)), .c (.lit (.map (some b4)))] ?_ rfl rs_res4 rfl
    repeat (first | refine gG ?_ | refine zN1 (fun hlen => ?_) | refine zN2 (fun hlen => ?_) | refine zBx (fun _ => ?_))
    refine zG ?_
    exact ⟨some b4, rfl, rfl⟩
set_option maxRecDepth 100000 in
theorem told_af (o : Option Int) : AF Try.prog 21 [.lit (.int .i64 (o.getD 0)), .lit (.bool o.isSome)] (· = .tup [.lit (.int .i64 (errT o).1), .lit (.int .i64 (errT o).2)]) := by
  cases o with
  | none =>
    refine af_enter tok Try.func21 Try.ntmps21 Try.results21 rfl (by kernel_rfl) rfl rfl fun F hX => ?_
    repeat (first | refine gG ?_)
    first | refine zR ?_ | refine zQ ?_
    rfl
  | some x =>
    refine af_enter tok Try.func21 Try.ntmps21 Try.results21 rfl (by kernel_rfl) rfl rfl fun F hX => ?_
    repeat (first | refine gG ?_)
    first | refine zR ?_ | refine zQ ?_
    rfl
set_option maxRecDepth 100000 in
set_option maxHeartbeats 4000000 in
theorem scopeE_af (p : Pr) (hp : p.mass ≤ 1048576) (B : List ByteArray) (e : Ex) (hB : B.length + e.mass ≤ 1048576) : AF Try.prog 13 [p.t, strRow B, e.t] (· = .tup [.lit (.int .i64 (errT (e.sc p.env B)).1), .lit (.int .i64 (errT (e.sc p.env B)).2)]) := by
  have hn := newR_ag p hp
  have hx := fun b1 b2 b3 br M1 M2 M3 h1 h2 h3 => exprS_ag p.env e B b1 b2 b3 br M1 M2 M3 none h1 h2 h3 hB
  have ht := told_af (e.sc p.env B)
  generalize p.env = E at *
  generalize e.sc E B = o at *
  generalize errT o = er at *
  obtain ⟨nm, vr, us, ds, trs, ims, fus, acs⟩ := p
  obtain ⟨k0, n0, t0, ns0, ys0, l0, rs0, p0⟩ := e
  refine af_enter tok Try.func13 Try.ntmps13 Try.results13 rfl (by kernel_rfl) rfl rfl fun F hX => ?_
  repeat (first | refine gG ?_ | refine zBf ?_)
  refine ac_draw [0, 2, 0, 0, 2, 1, 1, 1, 1, 1, 1, 1] [0, 2, 3, 1, 4, 5, 6, 7, 8, 9, 10, 11] (by kernel_rfl) (by kernel_rfl) ?_
  refine gW ?_
  apply w_l; (focus exact rfl); (focus exact rfl); (refine zCallG [] hn ?_; rintro _ _ ⟨b1, b2, b3, br, M1, M2, M3, rfl, rfl, z1, z2, z3⟩; refine ⟨.ptr 3 br 0, _, re_ptr, rfl, rfl, ?_⟩)
  apply w_l; (focus exact rfl); (focus exact rfl); (refine zCallG [0, 1, 2, 3] (hx b1 b2 b3 br M1 M2 M3 z1 z2 z3) ?_; rintro _ _ ⟨z', rfl, rfl⟩; refine ⟨_, _, re_refl, rfl, rfl, ?_⟩)
  refine gW ?_
  apply w_q; (focus exact rfl); (focus exact rfl); focus (intro _; (refine zCall ht ?_; rintro _ rfl); exact det_refl)
  refine gW ?_
  refine w_nil ?_
  repeat (first | refine gG ?_ | refine zBx (fun _ => ?_))
  first | refine zR ?_ | refine zQ ?_
  rfl
end Go.Proofs.Ytldhlbjengpdbaa
namespace Go.Proofs.Ytldhlbjengpdbaa
open Go.RowKit
theorem Pr.uses_lt (p : Pr) : p.uses.length + 1 ≤ p.mass := by
  have h := len_sum Us.mass p.uses fun a => by unfold Us.mass; omega
  unfold Pr.mass
  omega
theorem Pr.datas_le (p : Pr) : p.datas.length ≤ p.mass := by
  have h := len_sum Da.mass p.datas fun a => by unfold Da.mass; omega
  unfold Pr.mass
  omega
theorem Pr.traits_le (p : Pr) : p.traits.length ≤ p.mass := by
  have h := len_sum Tr.mass p.traits fun a => by unfold Tr.mass; omega
  unfold Pr.mass
  omega
theorem Pr.params_le (p : Pr) {d : Da} (hd : d ∈ p.datas) : d.params.length ≤ p.mass := by
  have h := sum_mem' Da.mass hd
  have h2 := strSize_len d.params
  have h3 : strSize d.params ≤ d.mass := by unfold Da.mass; omega
  unfold Pr.mass
  omega
theorem Pr.trait_le (p : Pr) {t : Tr} (ht : t ∈ p.traits) {f : Fu} (hf : f ∈ t.funcs) : f.params.length ≤ p.mass ∧ f.names.length ≤ p.mass := by
  have h := sum_mem' Tr.mass ht
  have h1 := sum_mem' Fu.mass hf
  have h2 := strSize_len f.params
  have h3 := strSize_len f.names
  have h4 : strSize f.params ≤ f.mass ∧ strSize f.names ≤ f.mass := by unfold Fu.mass; omega
  have h5 : (t.funcs.map Fu.mass).sum ≤ t.mass := by unfold Tr.mass; omega
  unfold Pr.mass
  constructor
  · omega
  · omega
theorem Fu.all_le (f : Fu) : f.params.length ≤ f.mass ∧ f.names.length + f.body.mass ≤ f.mass := by
  have h2 := strSize_len f.params
  have h3 := strSize_len f.names
  unfold Fu.mass
  constructor
  · omega
  · omega
theorem Pr.fun_le (p : Pr) {f : Fu} (hf : f ∈ p.funs) : f.params.length ≤ p.mass ∧ f.names.length + f.body.mass ≤ p.mass := by
  have hm : f.mass ≤ p.mass := by
    rw [Pr.funs] at hf
    rcases List.mem_append.1 hf with h | h
    · obtain ⟨i, hi, hfi⟩ := List.mem_flatMap.1 h
      have h1 := sum_mem' Im.mass hi
      have h2 := sum_mem' Fu.mass hfi
      have h5 : (i.funcs.map Fu.mass).sum ≤ i.mass := by unfold Im.mass; omega
      unfold Pr.mass
      omega
    · have h2 := sum_mem' Fu.mass h
      unfold Pr.mass
      omega
  have := f.all_le
  omega
theorem Pr.act_le (p : Pr) {a : Ac} (ha : a ∈ p.actors) : a.names.length + a.body.mass ≤ p.mass := by
  have h := sum_mem' Ac.mass ha
  have h3 := strSize_len a.names
  have h4 : strSize a.names + a.body.mass ≤ a.mass := by unfold Ac.mass; omega
  unfold Pr.mass
  omega
@[reducible] def r3B (v3 v4 v5 : Value) (A B C : List ByteArray) : List Blk := [.row v3 9 1 A.length (A.flatMap strTs), .row v4 9 1 B.length (B.flatMap strTs), .row v5 9 1 C.length (C.flatMap strTs)]
set_option maxRecDepth 100000 in
set_option maxHeartbeats 8000000 in
theorem doubled_af (p : Pr) (hp : p.mass ≤ 1048576) : AF Try.prog 18 [p.t] (· = .lit (.bool (dblP p))) := by
  have c1 := makers_af p (Nat.le_trans p.makers_le hp)
  have c2 := calls_af p (Nat.le_trans p.calls_le hp)
  have c3 := acts_af p (Nat.le_trans p.acts_le hp)
  have s1 := twice_af p.makers (Nat.le_trans p.makers_le hp)
  have s2 := twice_af p.calls (Nat.le_trans p.calls_le hp)
  have s3 := twice_af p.acts (Nat.le_trans p.acts_le hp)
  have hu := Nat.le_trans p.uses_lt hp
  have hd := Nat.le_trans p.datas_le hp
  have ht := Nat.le_trans p.traits_le hp
  have hdp : ∀ d ∈ p.datas, d.params.length ≤ 1048576 := fun d h => Nat.le_trans (p.params_le h) hp
  have hD : dblP p = (p.datas.any (fun d => twB d.params) || twB (p.name :: p.uses.map Us.name) || twB (p.datas.map Da.name) || twB (p.traits.map Tr.name) || twB p.makers || twB p.calls || twB p.acts) := rfl
  rw [hD]
  clear hD
  generalize p.makers = LM at *
  generalize p.calls = LC at *
  generalize p.acts = LA at *
  have sA := twice_af (p.name :: p.uses.map Us.name) (by rw [List.length_cons, List.length_map]; exact hu)
  have sB := twice_af (p.datas.map Da.name) (by rw [List.length_map]; exact hd)
  have sC := twice_af (p.traits.map Tr.name) (by rw [List.length_map]; exact ht)
  obtain ⟨nm, vr, us, ds, trs, ims, fus, acs⟩ := p
  clear hp
  dsimp only at *
  generalize hR : ds.any (fun d => twB d.params) = r
  refine af_enter tok Try.func18 Try.ntmps18 Try.results18 rfl (by kernel_rfl) rfl rfl fun F hX => ?_
  repeat (first | refine gX ?_ | refine zN1 (fun hlen => ?_) | refine zN2 (fun hlen => ?_) | refine zAl (fun _ => ?_) | refine zBf ?_ | refine zAp (fun _ => ?_))
  refine zBo (fun v3 => ?_)
  repeat (first | refine gX ?_ | refine zN1 (fun hlen => ?_) | refine zN2 (fun hlen => ?_) | refine zAl (fun _ => ?_) | refine zBf ?_ | refine zAp (fun _ => ?_))
  refine zBo (fun v4 => ?_)
  repeat (first | refine gX ?_ | refine zN1 (fun hlen => ?_) | refine zN2 (fun hlen => ?_) | refine zAl (fun _ => ?_) | refine zBf ?_ | refine zAp (fun _ => ?_))
  refine zBo (fun v5 => ?_)
  repeat (first | refine gG ?_ | refine zN1 (fun hlen => ?_) | refine zN2 (fun hlen => ?_) | refine zAl (fun _ => ?_) | refine zBx (fun _ => ?_) | refine zAp (fun _ => ?_))
  refine x_loop [3, 7, 20, 21, 22, 23, 24, 25, 26, 27, 28, 29] (fun y : Nat × Value => [(20, .c (.lit (.int .i64 (y.1 : Nat)))), (3, .own 0 y.2)]) (fun y => r3B y.2 v4 v5 (nm :: (us.map Us.name).take y.1) [] []) (fun y => y.1 ≤ us.length) (fun y => us.length - y.1) (0, v3) (Nat.zero_le _) ⟨rfl, rfl, trivial⟩ rfl ?_
  rintro ⟨j, u⟩ hj
  dsimp only at hj ⊢
  repeat (first | refine gG ?_ | refine zN1 (fun hlen => ?_) | refine zN2 (fun hlen => ?_) | refine zAl (fun _ => ?_) | refine zBx (fun _ => ?_) | refine zAp (fun _ => ?_))
  refine x_cond rfl (fun h => ?_) (fun h => ?_)
  · have hj' : j < us.length := by simpa using h
    obtain ⟨m, hm⟩ := nth hj'
    have hmn : (us.map Us.name)[j]? = some m.name := by rw [List.getElem?_map, hm]; rfl
    have htk := tk_step hmn
    have hml : (nm :: (us.map Us.name).take j).length ≤ 1048576 := by rw [List.length_cons, List.length_take]; omega
    have hatm := Us.at hm
    obtain ⟨mn, ml, mh⟩ := m
    replace htk : nm :: (us.map Us.name).take (j + 1) = (nm :: (us.map Us.name).take j) ++ [mn] := by rw [htk]; rfl
    generalize nm :: (us.map Us.name).take j = B at *
    clear h hm hmn
    repeat (first | refine gG ?_ | refine zN1 (fun hlen => ?_) | refine zN2 (fun hlen => ?_) | refine zAl (fun _ => ?_) | refine zBx (fun _ => ?_) | refine zAp (fun _ => ?_))
    refine zIx (j) (hj') ?_
    repeat (first | refine gG ?_ | refine zN1 (fun hlen => ?_) | refine zN2 (fun hlen => ?_) | refine zAl (fun _ => ?_) | refine zBx (fun _ => ?_) | refine zAp (fun _ => ?_))
    refine zEl (hatm) (Us.ts_len _) ?_
    repeat (first | refine gG ?_ | refine zN1 (fun hlen => ?_) | refine zN2 (fun hlen => ?_) | refine zAl (fun _ => ?_) | refine zBx (fun _ => ?_) | refine zAp (fun _ => ?_))
    exact ⟨(j + 1, _), hj', by simp only; omega, x_wkd 3 ⟨rfl, rfl, trivial⟩ (by dsimp only; rw [htk]; simp only [r3B, List.length_append, List.flatMap_append]; rfl) (by repeat (first | exact ag_refl | refine ag_upd rfl ?_ | refine ag_at rfl rfl ?_))⟩
  have hj' : j = us.length := by have : ¬ j < us.length := by simpa using h
                                 omega
  subst hj'
  have htl : (us.map Us.name).take us.length = us.map Us.name := by rw [← List.length_map (f := Us.name), List.take_length]
  rw [htl]
  clear h hj htl
  have hA : (nm :: us.map Us.name).length ≤ 1048576 := by rw [List.length_cons, List.length_map]; exact hu
  generalize nm :: us.map Us.name = A at *
  repeat (first | refine gG ?_ | refine zN1 (fun hlen => ?_) | refine zN2 (fun hlen => ?_) | refine zAl (fun _ => ?_) | refine zBx (fun _ => ?_) | refine zAp (fun _ => ?_))
  refine x_loop [2, 4, 9, 33, 34, 35, 36, 37, 38, 39, 40, 41, 42, 43, 44, 45] (fun y : Nat × Value => [(33, .c (.lit (.int .i64 (y.1 : Nat)))), (4, .own 1 y.2)]) (fun y => r3B u y.2 v5 A ((ds.map Da.name).take y.1) []) (fun y => y.1 ≤ ds.length ∧ (ds.drop y.1).any (fun d => twB d.params) = r) (fun y => ds.length - y.1) (0, v4) ⟨Nat.zero_le _, hR⟩ ⟨rfl, rfl, trivial⟩ rfl ?_
  clear hR
  rintro ⟨j, w⟩ ⟨hj, he⟩
  dsimp only at hj he ⊢
  repeat (first | refine gG ?_ | refine zN1 (fun hlen => ?_) | refine zN2 (fun hlen => ?_) | refine zAl (fun _ => ?_) | refine zBx (fun _ => ?_) | refine zAp (fun _ => ?_))
  refine x_cond rfl (fun h => ?_) (fun h => ?_)
  · have hj' : j < ds.length := by simpa using h
    obtain ⟨m, hm⟩ := nth hj'
    have hmn : (ds.map Da.name)[j]? = some m.name := by rw [List.getElem?_map, hm]; rfl
    have htk := tk_step hmn
    have hml : ((ds.map Da.name).take j).length ≤ 1048576 := by rw [List.length_take]; omega
    have hatm := Da.at hm
    have stw := twice_af m.params (hdp m (List.mem_of_getElem? hm))
    rw [any_drop hm] at he
    obtain ⟨mn, mps, mms⟩ := m
    dsimp only at htk he stw
    generalize (ds.map Da.name).take j = B at *
    clear h hm hmn hdp
    cases dt : twB mps
    · rw [dt] at stw he
      rw [Bool.false_or] at he
      repeat (first | refine gG ?_ | refine zN1 (fun hlen => ?_) | refine zN2 (fun hlen => ?_) | refine zAl (fun _ => ?_) | refine zBx (fun _ => ?_) | refine zAp (fun _ => ?_))
      refine zIx (j) (hj') ?_
      repeat (first | refine gG ?_ | refine zN1 (fun hlen => ?_) | refine zN2 (fun hlen => ?_) | refine zAl (fun _ => ?_) | refine zBx (fun _ => ?_) | refine zAp (fun _ => ?_))
      refine zEl (hatm) (Da.ts_len _) ?_
      repeat (first | refine gG ?_ | refine zN1 (fun hlen => ?_) | refine zN2 (fun hlen => ?_) | refine zAl (fun _ => ?_) | refine zBx (fun _ => ?_) | refine zAp (fun _ => ?_))
      refine zCall (stw) ?_
      rintro _ rfl
      repeat (first | refine gG ?_ | refine zN1 (fun hlen => ?_) | refine zN2 (fun hlen => ?_) | refine zAl (fun _ => ?_) | refine zBx (fun _ => ?_) | refine zAp (fun _ => ?_))
      exact ⟨(j + 1, _), ⟨hj', he⟩, by simp only; omega, x_wkd 3 ⟨rfl, rfl, trivial⟩ (by dsimp only; rw [htk]; simp only [r3B, List.length_append, List.flatMap_append]; rfl) (by repeat (first | exact ag_refl | refine ag_upd rfl ?_ | refine ag_at rfl rfl ?_))⟩
    · rw [dt] at stw he
      rw [Bool.true_or] at he
      subst he
      repeat (first | refine gG ?_ | refine zN1 (fun hlen => ?_) | refine zN2 (fun hlen => ?_) | refine zAl (fun _ => ?_) | refine zBx (fun _ => ?_) | refine zAp (fun _ => ?_))
      refine zIx (j) (hj') ?_
      repeat (first | refine gG ?_ | refine zN1 (fun hlen => ?_) | refine zN2 (fun hlen => ?_) | refine zAl (fun _ => ?_) | refine zBx (fun _ => ?_) | refine zAp (fun _ => ?_))
      refine zEl (hatm) (Da.ts_len _) ?_
      repeat (first | refine gG ?_ | refine zN1 (fun hlen => ?_) | refine zN2 (fun hlen => ?_) | refine zAl (fun _ => ?_) | refine zBx (fun _ => ?_) | refine zAp (fun _ => ?_))
      refine zCall (stw) ?_
      rintro _ rfl
      repeat (first | refine gG ?_ | refine zN1 (fun hlen => ?_) | refine zN2 (fun hlen => ?_) | refine zAl (fun _ => ?_) | refine zBx (fun _ => ?_) | refine zAp (fun _ => ?_))
      first | refine zR ?_ | refine zQ ?_
      rfl
  have hj' : j = ds.length := by have : ¬ j < ds.length := by simpa using h
                                 omega
  subst hj'
  have htl : (ds.map Da.name).take ds.length = ds.map Da.name := by rw [← List.length_map (f := Da.name), List.take_length]
  rw [htl]
  rw [List.drop_length, List.any_nil] at he
  subst he
  clear h hj htl hdp
  have hB : (ds.map Da.name).length ≤ 1048576 := by rw [List.length_map]; exact hd
  generalize ds.map Da.name = B at *
  repeat (first | refine gG ?_ | refine zN1 (fun hlen => ?_) | refine zN2 (fun hlen => ?_) | refine zAl (fun _ => ?_) | refine zBx (fun _ => ?_) | refine zAp (fun _ => ?_))
  refine x_loop [5, 11, 49, 50, 51, 52, 53, 54, 55, 56, 57, 58] (fun y : Nat × Value => [(49, .c (.lit (.int .i64 (y.1 : Nat)))), (5, .own 2 y.2)]) (fun y => r3B u w y.2 A B ((trs.map Tr.name).take y.1)) (fun y => y.1 ≤ trs.length) (fun y => trs.length - y.1) (0, v5) (Nat.zero_le _) ⟨rfl, rfl, trivial⟩ rfl ?_
  rintro ⟨j, x⟩ hj
  dsimp only at hj ⊢
  repeat (first | refine gG ?_ | refine zN1 (fun hlen => ?_) | refine zN2 (fun hlen => ?_) | refine zAl (fun _ => ?_) | refine zBx (fun _ => ?_) | refine zAp (fun _ => ?_))
  refine x_cond rfl (fun h => ?_) (fun h => ?_)
  · have hj' : j < trs.length := by simpa using h
    obtain ⟨m, hm⟩ := nth hj'
    have hmn : (trs.map Tr.name)[j]? = some m.name := by rw [List.getElem?_map, hm]; rfl
    have htk := tk_step hmn
    have hml : ((trs.map Tr.name).take j).length ≤ 1048576 := by rw [List.length_take]; omega
    have hatm := Tr.at hm
    obtain ⟨mn, ml⟩ := m
    dsimp only at htk
    generalize (trs.map Tr.name).take j = C at *
    clear h hm hmn
    repeat (first | refine gG ?_ | refine zN1 (fun hlen => ?_) | refine zN2 (fun hlen => ?_) | refine zAl (fun _ => ?_) | refine zBx (fun _ => ?_) | refine zAp (fun _ => ?_))
    refine zIx (j) (hj') ?_
    repeat (first | refine gG ?_ | refine zN1 (fun hlen => ?_) | refine zN2 (fun hlen => ?_) | refine zAl (fun _ => ?_) | refine zBx (fun _ => ?_) | refine zAp (fun _ => ?_))
    refine zEl (hatm) (Tr.ts_len _) ?_
    repeat (first | refine gG ?_ | refine zN1 (fun hlen => ?_) | refine zN2 (fun hlen => ?_) | refine zAl (fun _ => ?_) | refine zBx (fun _ => ?_) | refine zAp (fun _ => ?_))
    exact ⟨(j + 1, _), hj', by simp only; omega, x_wkd 3 ⟨rfl, rfl, trivial⟩ (by dsimp only; rw [htk]; simp only [r3B, List.length_append, List.flatMap_append]; rfl) (by repeat (first | exact ag_refl | refine ag_upd rfl ?_ | refine ag_at rfl rfl ?_))⟩
  have hj' : j = trs.length := by have : ¬ j < trs.length := by simpa using h
                                  omega
  subst hj'
  have htl : (trs.map Tr.name).take trs.length = trs.map Tr.name := by rw [← List.length_map (f := Tr.name), List.take_length]
  rw [htl]
  clear h hj htl
  generalize trs.map Tr.name = C at *
  refine x_fz 3 rfl rfl rfl rfl ?_
  refine x_fz 4 rfl rfl rfl rfl ?_
  refine x_fz 5 rfl rfl rfl rfl ?_
  refine x_drop 0 rfl ?_
  rw [Bool.false_or]
  cases dA : twB A
  rotate_left
  · rw [dA] at sA
    repeat (first | refine gG ?_ | refine zN1 (fun hlen => ?_) | refine zN2 (fun hlen => ?_) | refine zAl (fun _ => ?_) | refine zBx (fun _ => ?_) | refine zAp (fun _ => ?_))
    refine zCall (sA) ?_
    rintro _ rfl
    repeat (first | refine gG ?_ | refine zN1 (fun hlen => ?_) | refine zN2 (fun hlen => ?_) | refine zAl (fun _ => ?_) | refine zBx (fun _ => ?_) | refine zAp (fun _ => ?_))
    first | refine zR ?_ | refine zQ ?_
    rfl
  rw [dA] at sA
  cases dB : twB B
  rotate_left
  · rw [dB] at sB
    repeat (first | refine gG ?_ | refine zN1 (fun hlen => ?_) | refine zN2 (fun hlen => ?_) | refine zAl (fun _ => ?_) | refine zBx (fun _ => ?_) | refine zAp (fun _ => ?_))
    refine zCall (sA) ?_
    rintro _ rfl
    repeat (first | refine gG ?_ | refine zN1 (fun hlen => ?_) | refine zN2 (fun hlen => ?_) | refine zAl (fun _ => ?_) | refine zBx (fun _ => ?_) | refine zAp (fun _ => ?_))
    refine zCall (sB) ?_
    rintro _ rfl
    repeat (first | refine gG ?_ | refine zN1 (fun hlen => ?_) | refine zN2 (fun hlen => ?_) | refine zAl (fun _ => ?_) | refine zBx (fun _ => ?_) | refine zAp (fun _ => ?_))
    first | refine zR ?_ | refine zQ ?_
    rfl
  rw [dB] at sB
  cases dC : twB C
  rotate_left
  · rw [dC] at sC
    repeat (first | refine gG ?_ | refine zN1 (fun hlen => ?_) | refine zN2 (fun hlen => ?_) | refine zAl (fun _ => ?_) | refine zBx (fun _ => ?_) | refine zAp (fun _ => ?_))
    refine zCall (sA) ?_
    rintro _ rfl
    repeat (first | refine gG ?_ | refine zN1 (fun hlen => ?_) | refine zN2 (fun hlen => ?_) | refine zAl (fun _ => ?_) | refine zBx (fun _ => ?_) | refine zAp (fun _ => ?_))
    refine zCall (sB) ?_
    rintro _ rfl
    repeat (first | refine gG ?_ | refine zN1 (fun hlen => ?_) | refine zN2 (fun hlen => ?_) | refine zAl (fun _ => ?_) | refine zBx (fun _ => ?_) | refine zAp (fun _ => ?_))
    refine zCall (sC) ?_
    rintro _ rfl
    repeat (first | refine gG ?_ | refine zN1 (fun hlen => ?_) | refine zN2 (fun hlen => ?_) | refine zAl (fun _ => ?_) | refine zBx (fun _ => ?_) | refine zAp (fun _ => ?_))
    first | refine zR ?_ | refine zQ ?_
    rfl
  rw [dC] at sC
  cases dLM : twB LM
  rotate_left
  · rw [dLM] at s1
    repeat (first | refine gG ?_ | refine zN1 (fun hlen => ?_) | refine zN2 (fun hlen => ?_) | refine zAl (fun _ => ?_) | refine zBx (fun _ => ?_) | refine zAp (fun _ => ?_))
    refine zCall (sA) ?_
    rintro _ rfl
    repeat (first | refine gG ?_ | refine zN1 (fun hlen => ?_) | refine zN2 (fun hlen => ?_) | refine zAl (fun _ => ?_) | refine zBx (fun _ => ?_) | refine zAp (fun _ => ?_))
    refine zCall (sB) ?_
    rintro _ rfl
    repeat (first | refine gG ?_ | refine zN1 (fun hlen => ?_) | refine zN2 (fun hlen => ?_) | refine zAl (fun _ => ?_) | refine zBx (fun _ => ?_) | refine zAp (fun _ => ?_))
    refine zCall (sC) ?_
    rintro _ rfl
    repeat (first | refine gG ?_ | refine zN1 (fun hlen => ?_) | refine zN2 (fun hlen => ?_) | refine zAl (fun _ => ?_) | refine zBx (fun _ => ?_) | refine zAp (fun _ => ?_))
    refine zCall (c1) ?_
    rintro _ rfl
    repeat (first | refine gG ?_ | refine zN1 (fun hlen => ?_) | refine zN2 (fun hlen => ?_) | refine zAl (fun _ => ?_) | refine zBx (fun _ => ?_) | refine zAp (fun _ => ?_))
    refine zCall (s1) ?_
    rintro _ rfl
    repeat (first | refine gG ?_ | refine zN1 (fun hlen => ?_) | refine zN2 (fun hlen => ?_) | refine zAl (fun _ => ?_) | refine zBx (fun _ => ?_) | refine zAp (fun _ => ?_))
    first | refine zR ?_ | refine zQ ?_
    rfl
  rw [dLM] at s1
  cases dLC : twB LC
  rotate_left
  · rw [dLC] at s2
    repeat (first | refine gG ?_ | refine zN1 (fun hlen => ?_) | refine zN2 (fun hlen => ?_) | refine zAl (fun _ => ?_) | refine zBx (fun _ => ?_) | refine zAp (fun _ => ?_))
    refine zCall (sA) ?_
    rintro _ rfl
    repeat (first | refine gG ?_ | refine zN1 (fun hlen => ?_) | refine zN2 (fun hlen => ?_) | refine zAl (fun _ => ?_) | refine zBx (fun _ => ?_) | refine zAp (fun _ => ?_))
    refine zCall (sB) ?_
    rintro _ rfl
    repeat (first | refine gG ?_ | refine zN1 (fun hlen => ?_) | refine zN2 (fun hlen => ?_) | refine zAl (fun _ => ?_) | refine zBx (fun _ => ?_) | refine zAp (fun _ => ?_))
    refine zCall (sC) ?_
    rintro _ rfl
    repeat (first | refine gG ?_ | refine zN1 (fun hlen => ?_) | refine zN2 (fun hlen => ?_) | refine zAl (fun _ => ?_) | refine zBx (fun _ => ?_) | refine zAp (fun _ => ?_))
    refine zCall (c1) ?_
    rintro _ rfl
    repeat (first | refine gG ?_ | refine zN1 (fun hlen => ?_) | refine zN2 (fun hlen => ?_) | refine zAl (fun _ => ?_) | refine zBx (fun _ => ?_) | refine zAp (fun _ => ?_))
    refine zCall (s1) ?_
    rintro _ rfl
    repeat (first | refine gG ?_ | refine zN1 (fun hlen => ?_) | refine zN2 (fun hlen => ?_) | refine zAl (fun _ => ?_) | refine zBx (fun _ => ?_) | refine zAp (fun _ => ?_))
    refine zCall (c2) ?_
    rintro _ rfl
    repeat (first | refine gG ?_ | refine zN1 (fun hlen => ?_) | refine zN2 (fun hlen => ?_) | refine zAl (fun _ => ?_) | refine zBx (fun _ => ?_) | refine zAp (fun _ => ?_))
    refine zCall (s2) ?_
    rintro _ rfl
    repeat (first | refine gG ?_ | refine zN1 (fun hlen => ?_) | refine zN2 (fun hlen => ?_) | refine zAl (fun _ => ?_) | refine zBx (fun _ => ?_) | refine zAp (fun _ => ?_))
    first | refine zR ?_ | refine zQ ?_
    rfl
  rw [dLC] at s2
  cases dLA : twB LA
  rotate_left
  · rw [dLA] at s3
    repeat (first | refine gG ?_ | refine zN1 (fun hlen => ?_) | refine zN2 (fun hlen => ?_) | refine zAl (fun _ => ?_) | refine zBx (fun _ => ?_) | refine zAp (fun _ => ?_))
    refine zCall (sA) ?_
    rintro _ rfl
    repeat (first | refine gG ?_ | refine zN1 (fun hlen => ?_) | refine zN2 (fun hlen => ?_) | refine zAl (fun _ => ?_) | refine zBx (fun _ => ?_) | refine zAp (fun _ => ?_))
    refine zCall (sB) ?_
    rintro _ rfl
    repeat (first | refine gG ?_ | refine zN1 (fun hlen => ?_) | refine zN2 (fun hlen => ?_) | refine zAl (fun _ => ?_) | refine zBx (fun _ => ?_) | refine zAp (fun _ => ?_))
    refine zCall (sC) ?_
    rintro _ rfl
    repeat (first | refine gG ?_ | refine zN1 (fun hlen => ?_) | refine zN2 (fun hlen => ?_) | refine zAl (fun _ => ?_) | refine zBx (fun _ => ?_) | refine zAp (fun _ => ?_))
    refine zCall (c1) ?_
    rintro _ rfl
    repeat (first | refine gG ?_ | refine zN1 (fun hlen => ?_) | refine zN2 (fun hlen => ?_) | refine zAl (fun _ => ?_) | refine zBx (fun _ => ?_) | refine zAp (fun _ => ?_))
    refine zCall (s1) ?_
    rintro _ rfl
    repeat (first | refine gG ?_ | refine zN1 (fun hlen => ?_) | refine zN2 (fun hlen => ?_) | refine zAl (fun _ => ?_) | refine zBx (fun _ => ?_) | refine zAp (fun _ => ?_))
    refine zCall (c2) ?_
    rintro _ rfl
    repeat (first | refine gG ?_ | refine zN1 (fun hlen => ?_) | refine zN2 (fun hlen => ?_) | refine zAl (fun _ => ?_) | refine zBx (fun _ => ?_) | refine zAp (fun _ => ?_))
    refine zCall (s2) ?_
    rintro _ rfl
    repeat (first | refine gG ?_ | refine zN1 (fun hlen => ?_) | refine zN2 (fun hlen => ?_) | refine zAl (fun _ => ?_) | refine zBx (fun _ => ?_) | refine zAp (fun _ => ?_))
    refine zCall (c3) ?_
    rintro _ rfl
    repeat (first | refine gG ?_ | refine zN1 (fun hlen => ?_) | refine zN2 (fun hlen => ?_) | refine zAl (fun _ => ?_) | refine zBx (fun _ => ?_) | refine zAp (fun _ => ?_))
    refine zCall (s3) ?_
    rintro _ rfl
    repeat (first | refine gG ?_ | refine zN1 (fun hlen => ?_) | refine zN2 (fun hlen => ?_) | refine zAl (fun _ => ?_) | refine zBx (fun _ => ?_) | refine zAp (fun _ => ?_))
    first | refine zR ?_ | refine zQ ?_
    rfl
  rw [dLA] at s3
  repeat (first | refine gG ?_ | refine zN1 (fun hlen => ?_) | refine zN2 (fun hlen => ?_) | refine zAl (fun _ => ?_) | refine zBx (fun _ => ?_) | refine zAp (fun _ => ?_))
  refine zCall (sA) ?_
  rintro _ rfl
  repeat (first | refine gG ?_ | refine zN1 (fun hlen => ?_) | refine zN2 (fun hlen => ?_) | refine zAl (fun _ => ?_) | refine zBx (fun _ => ?_) | refine zAp (fun _ => ?_))
  refine zCall (sB) ?_
  rintro _ rfl
  repeat (first | refine gG ?_ | refine zN1 (fun hlen => ?_) | refine zN2 (fun hlen => ?_) | refine zAl (fun _ => ?_) | refine zBx (fun _ => ?_) | refine zAp (fun _ => ?_))
  refine zCall (sC) ?_
  rintro _ rfl
  repeat (first | refine gG ?_ | refine zN1 (fun hlen => ?_) | refine zN2 (fun hlen => ?_) | refine zAl (fun _ => ?_) | refine zBx (fun _ => ?_) | refine zAp (fun _ => ?_))
  refine zCall (c1) ?_
  rintro _ rfl
  repeat (first | refine gG ?_ | refine zN1 (fun hlen => ?_) | refine zN2 (fun hlen => ?_) | refine zAl (fun _ => ?_) | refine zBx (fun _ => ?_) | refine zAp (fun _ => ?_))
  refine zCall (s1) ?_
  rintro _ rfl
  repeat (first | refine gG ?_ | refine zN1 (fun hlen => ?_) | refine zN2 (fun hlen => ?_) | refine zAl (fun _ => ?_) | refine zBx (fun _ => ?_) | refine zAp (fun _ => ?_))
  refine zCall (c2) ?_
  rintro _ rfl
  repeat (first | refine gG ?_ | refine zN1 (fun hlen => ?_) | refine zN2 (fun hlen => ?_) | refine zAl (fun _ => ?_) | refine zBx (fun _ => ?_) | refine zAp (fun _ => ?_))
  refine zCall (s2) ?_
  rintro _ rfl
  repeat (first | refine gG ?_ | refine zN1 (fun hlen => ?_) | refine zN2 (fun hlen => ?_) | refine zAl (fun _ => ?_) | refine zBx (fun _ => ?_) | refine zAp (fun _ => ?_))
  refine zCall (c3) ?_
  rintro _ rfl
  repeat (first | refine gG ?_ | refine zN1 (fun hlen => ?_) | refine zN2 (fun hlen => ?_) | refine zAl (fun _ => ?_) | refine zBx (fun _ => ?_) | refine zAp (fun _ => ?_))
  refine zCall (s3) ?_
  rintro _ rfl
  repeat (first | refine gG ?_ | refine zN1 (fun hlen => ?_) | refine zN2 (fun hlen => ?_) | refine zAl (fun _ => ?_) | refine zBx (fun _ => ?_) | refine zAp (fun _ => ?_))
  first | refine zR ?_ | refine zQ ?_
  rfl
end Go.Proofs.Ytldhlbjengpdbaa
namespace Go.Proofs.Ytldhlbjengpdbaa
open Go.RowKit
theorem enters_Sort : Enters Try.prog 34 := ⟨_, Try.func34, by kernel_rfl, by kernel_rfl⟩
theorem enters_Comp : Enters Try.prog 35 := ⟨_, Try.func35, by kernel_rfl, by kernel_rfl⟩
theorem sortStr_ag (l : List ByteArray) (hlen : l.length ≤ 1048576) (v : Value) (e : TypeId) :
    AG Try.prog 34 [.own 0 v] [.row v e 1 l.length (l.flatMap strTs)] (fun r hs => r = .tup [] ∧ hs = [.row v e 1 (sortB l).length ((sortB l).flatMap strTs)]) :=
  sortS_ag (ρ := sortStr_ren) sortStr enters_Sort l (by omega) v e
theorem compStr_ag (l : List ByteArray) (hlen : l.length ≤ 1048576) (v : Value) (e : TypeId) :
    AG Try.prog 35 [.own 0 v] [.row v e 1 l.length (l.flatMap strTs)] (fun r hs => ∃ v', r = .own 0 v' ∧ hs = [.row v' e 1 (cmpB l).length ((cmpB l).flatMap strTs)]) :=
  compactS_ag (ρ := compStr_ren) compStr enters_Comp l (by omega) v e
set_option maxRecDepth 100000 in
set_option maxHeartbeats 1000000 in
theorem cloneStr_ag (l : List ByteArray) (hl : l.length ≤ 1048576) : AG Try.prog 33 [.c (strRow l)] [] (fun r hs => ∃ v, r = .own 0 v ∧ hs = [.row v 9 1 l.length (l.flatMap strTs)]) := by
  refine ag_enter (1) tok Try.func33 Try.ntmps33 Try.results33 rfl (by kernel_rfl) rfl fun F => ?_
  repeat (first | refine gG ?_ | refine zAp (fun _ => ?_))
  refine zNs (fun b hb => ?_)
  cases b
  · repeat (first | refine gX ?_ | refine zAp (fun _ => ?_))
    refine zBo (fun _ => ?_)
    repeat (first | refine gG ?_ | refine zAp (fun _ => ?_))
    refine zG ?_
    exact ⟨_, rfl, by simp only [List.nil_append, Nat.zero_add]⟩
  · have h0 := hb rfl
    have : l = [] := List.eq_nil_of_length_eq_zero h0
    subst this
    repeat (first | refine gO ?_ | refine ac_seq ?_ | refine ac_block ?_ | refine ac_region ?_ | refine ac_skip ?_ | refine zT ?_)
    refine x_own 2 9 1 rfl rfl rfl rfl rfl ?_
    repeat (first | refine gG ?_ | refine zAp (fun _ => ?_))
    refine zG ?_
    exact ⟨_, rfl, rfl⟩
set_option maxRecDepth 100000 in
set_option maxHeartbeats 1000000 in
theorem refDbl_af (l : List ByteArray) (hl : l.length ≤ 1048576) : AF Try.prog 22 [strRow l] (· = .lit (.bool (twB l))) := by
  have h1 := cloneStr_ag l hl
  have h2 := fun v e => sortStr_ag l hl v e
  have hsl := sortB_len l
  have h3 := fun v e => compStr_ag (sortB l) (by omega) v e
  have hcs := cmp_sort l
  have hcl := cmpB_le (sortB l)
  rw [hsl] at hcl
  clear hsl
  generalize sortB l = sl at *
  generalize cmpB sl = cl at *
  rw [← hcs]
  clear hcs
  refine af_enter tok Try.func22 Try.ntmps22 Try.results22 rfl (by kernel_rfl) rfl rfl fun F hX => ?_
  repeat (first | refine gG ?_ | refine zN1 (fun hlen => ?_) | refine zN2 (fun hlen => ?_))
  refine zCallG [] h1 ?_
  rintro _ _ ⟨v, rfl, rfl⟩
  refine ⟨.own 0 v, _, re_own, rfl, rfl, ?_⟩
  repeat (first | refine gG ?_ | refine zN1 (fun hlen => ?_) | refine zN2 (fun hlen => ?_))
  refine zCallG [0] (h2 v _) ?_
  rintro _ _ ⟨rfl, rfl⟩
  refine ⟨.tup [], _, re_refl, rfl, rfl, ?_⟩
  repeat (first | refine gG ?_ | refine zN1 (fun hlen => ?_) | refine zN2 (fun hlen => ?_))
  refine zCallG [0] (h3 v _) ?_
  rintro _ _ ⟨v', rfl, rfl⟩
  refine ⟨.own 0 v', _, re_own, rfl, rfl, ?_⟩
  repeat (first | refine gG ?_ | refine zN1 (fun hlen => ?_) | refine zN2 (fun hlen => ?_))
  first | refine zR ?_ | refine zQ ?_
  rfl
set_option maxRecDepth 100000 in
set_option maxHeartbeats 1000000 in
theorem lists_af (p : Pr) (hp : p.mass ≤ 1048576) : AF Try.prog 7 [p.t] (· = .tup [strRow p.makers, strRow p.calls, strRow p.acts]) := by
  have c1 := refMakers_af p (Nat.le_trans p.makers_le hp)
  have c2 := refCalls_af p (Nat.le_trans p.calls_le hp)
  have c3 := refActs_af p (Nat.le_trans p.acts_le hp)
  generalize p.makers = LM at *
  generalize p.calls = LC at *
  generalize p.acts = LA at *
  obtain ⟨nm, vr, us, ds, trs, ims, fus, acs⟩ := p
  clear hp
  refine af_enter tok Try.func7 Try.ntmps7 Try.results7 rfl (by kernel_rfl) rfl rfl fun F hX => ?_
  repeat (first | refine gG ?_ | refine zBf ?_)
  refine ac_draw [0, 1, 0, 1, 0, 1, 1, 1, 1] [0, 1, 2, 3, 4, 5, 6, 7, 8] (by kernel_rfl) (by kernel_rfl) ?_
  refine gW ?_
  apply w_q; (focus exact rfl); (focus exact rfl); focus (intro _; (refine zCall c1 ?_; rintro _ rfl); exact det_refl)
  refine gW ?_
  apply w_q; (focus exact rfl); (focus exact rfl); focus (intro _; (refine zCall c2 ?_; rintro _ rfl); exact det_refl)
  refine gW ?_
  apply w_q; (focus exact rfl); (focus exact rfl); focus (intro _; (refine zCall c3 ?_; rintro _ rfl); exact det_refl)
  refine gW ?_
  refine w_nil ?_
  repeat (first | refine gG ?_ | refine zBx (fun _ => ?_))
  first | refine zR ?_ | refine zQ ?_
  rfl
theorem frg_step {mk : List ByteArray} {O : List V} {i : Nat} {a : V} (ha : O[i]? = some a) {z : Bool} (h : ((O.take i).any (frg1 mk) || V.frgs mk (O.drop i)) = z) : (((O ++ a.kids).take (i + 1)).any (frg1 mk) || V.frgs mk ((O ++ a.kids).drop (i + 1))) = z := by
  obtain ⟨h1, rfl⟩ := List.getElem?_eq_some_iff.1 ha
  rw [List.drop_eq_getElem_cons h1, V.frgs, V.frg_eq] at h
  rw [List.take_append_of_le_length (by omega), List.drop_append_of_le_length (by omega), List.take_succ_eq_append_getElem h1, List.any_append, V.frgs_app, List.any_cons, List.any_nil, ← h]
  cases (O.take i).any (frg1 mk) <;> cases frg1 mk O[i] <;> cases V.frgs mk (O.drop (i + 1)) <;> cases V.frgs mk O[i].kids <;> rfl
set_option maxRecDepth 100000 in
set_option maxHeartbeats 4000000 in
theorem pats2_af (mk : List ByteArray) (p : V) (hp : p.nodes ≤ 1048576) : AF Try.prog 30 [p.t] (fun r => ∃ O : List V, O.length = p.nodes ∧ O.any (frg1 mk) = p.frg mk ∧ r = V.row O) := by
  obtain ⟨n, hn⟩ : ∃ n, n = p.nodes := ⟨_, rfl⟩
  obtain ⟨z, hz⟩ : ∃ z, z = p.frg mk := ⟨_, rfl⟩
  rw [← hn] at hp ⊢
  rw [← hz]
  obtain ⟨k0, n0, t0, l0⟩ := p
  refine af_enter tok Try.func30 Try.ntmps30 Try.results30 rfl (by kernel_rfl) rfl rfl fun F hX => ?_
  repeat (first | refine gX ?_ | refine zN1 (fun hlen => ?_) | refine zN2 (fun hlen => ?_) | refine zBf ?_ | refine zAp (fun _ => ?_))
  refine zBo (fun v0 => ?_)
  repeat (first | refine gG ?_ | refine zN1 (fun hlen => ?_) | refine zN2 (fun hlen => ?_) | refine zBx (fun _ => ?_) | refine zAp (fun _ => ?_))
  refine x_loop [3, 4, 7, 8, 9, 10, 11, 12, 13, 14, 15, 16, 17, 18, 19] (fun y : List V × Nat × Value => [(3, .own 0 y.2.2), (4, .c (.lit (.int .i64 (y.2.1 : Nat))))]) (fun y => [.row y.2.2 83 4 y.1.length (V.all y.1)])
    (fun y => y.2.1 ≤ y.1.length ∧ y.2.1 + V.nodesAll (y.1.drop y.2.1) = n ∧ ((y.1.take y.2.1).any (frg1 mk) || V.frgs mk (y.1.drop y.2.1)) = z) (fun y => n - y.2.1) ([.mk k0 n0 t0 l0], 0, v0) ⟨Nat.zero_le _, by simp only [List.drop_zero, V.nodesAll]; omega, by rw [hz]; simp [V.frgs]⟩ ⟨rfl, rfl, trivial⟩ rfl ?_
  clear hz
  rintro ⟨O, i, v⟩ ⟨hi, hI, hF⟩
  dsimp only at hi hI hF ⊢
  repeat (first | refine gG ?_ | refine zN1 (fun hlen => ?_) | refine zN2 (fun hlen => ?_) | refine zBx (fun _ => ?_) | refine zAp (fun _ => ?_))
  refine x_cond rfl (fun h => ?_) (fun h => ?_)
  · have hi' : i < O.length := by simpa using h
    obtain ⟨a, ha⟩ := nth hi'
    have hd : O.drop i = a :: O.drop (i + 1) := by
      obtain ⟨h1, rfl⟩ := List.getElem?_eq_some_iff.1 ha
      exact List.drop_eq_getElem_cons h1
    have h1 := V.nodes_kids a
    have h2 := V.len_nodes a.kids
    have h3 := V.len_nodes (O.drop (i + 1))
    rw [List.length_drop] at h3
    replace hF := frg_step ha hF
    rw [hd, V.nodesAll] at hI
    have hnew : (i + 1) + V.nodesAll ((O ++ a.kids).drop (i + 1)) = n := by
      rw [List.drop_append_of_le_length (by omega), V.nodesAll_app]
      omega
    have htl : O.length + a.kids.length ≤ 1048576 := by omega
    have hk := V.at_kids ha
    clear h
    repeat (first | refine gG ?_ | refine zN1 (fun hlen => ?_) | refine zN2 (fun hlen => ?_) | refine zBx (fun _ => ?_) | refine zAp (fun _ => ?_))
    refine zIxo i hi' ?_
    repeat (first | refine gG ?_ | refine zN1 (fun hlen => ?_) | refine zN2 (fun hlen => ?_) | refine zBx (fun _ => ?_) | refine zAp (fun _ => ?_))
    refine zElo1 hk ?_
    generalize a.kids = l at *
    repeat (first | refine gG ?_ | refine zN1 (fun hlen => ?_) | refine zN2 (fun hlen => ?_) | refine zBx (fun _ => ?_) | refine zAp (fun _ => ?_))
    exact ⟨(O ++ l, i + 1, _), ⟨by simp only [List.length_append]; omega, hnew, hF⟩, by simp only; omega, x_wkd 1 ⟨rfl, rfl, trivial⟩ (by simp only [List.length_append, V.all_app']; rfl) (by repeat (first | exact ag_refl | refine ag_upd rfl ?_ | refine ag_at rfl rfl ?_))⟩
  · have hi' : i = O.length := by
      have : ¬ i < O.length := by simpa using h
      omega
    subst hi'
    rw [List.drop_length, V.nodesAll, Nat.add_zero] at hI
    rw [List.drop_length, V.frgs, Bool.or_false, List.take_length] at hF
    clear h
    repeat (first | refine gG ?_ | refine zN1 (fun hlen => ?_) | refine zN2 (fun hlen => ?_) | refine zBx (fun _ => ?_) | refine zAp (fun _ => ?_))
    first | refine zR ?_ | refine zQ ?_
    exact ⟨O, hI, hF, rfl⟩
end Go.Proofs.Ytldhlbjengpdbaa
namespace Go.Proofs.Ytldhlbjengpdbaa
open Go.RowKit
def strAll (l : List ByteArray) : List T := l.flatMap strTs
theorem strAll_app (a b : List ByteArray) : strAll (a ++ b) = strAll a ++ strAll b := by simp [strAll]
set_option maxRecDepth 100000 in
set_option maxHeartbeats 1000000 in
theorem growS_ag (n : Nat) (hn : n ≤ 1048576) : AG Try.prog 43 [.c (.lit (.slice none 0 0)), .c (.lit (.int .i64 (n : Nat)))] [] (fun r hs => ∃ v', r = .own 0 v' ∧ hs = [.row v' 9 1 0 []]) := by
  have d0 : decide (((n : Nat) : Int) < 0) = false := decide_eq_false (by omega)
  rcases Nat.eq_zero_or_pos n with rfl | h0
  · have d1 : decide ((0 : Int) < (((0 : Nat) : Nat) : Int) - (0 - 0)) = false := rfl
    refine ag_enter (2) tok Try.func43 Try.ntmps43 Try.results43 rfl (by kernel_rfl) rfl fun F => ?_
    repeat (first | refine gO ?_ | refine zSub ?_ | refine zCap0 ?_ | refine ac_seq ?_ | refine ac_block ?_ | refine ac_region ?_ | refine ac_skip ?_ | refine zT ?_ | refine zF ?_)
    refine x_own 4 9 1 rfl rfl rfl rfl rfl ?_
    repeat (first | refine gG ?_ | refine zN1 (fun hlen => ?_) | refine zN2 (fun hlen => ?_) | refine zSub ?_ | refine zAp (fun _ => ?_))
    refine zG ?_
    exact ⟨_, rfl, rfl⟩
  · have d1 : decide ((0 : Int) < ((n : Nat) : Int) - (0 - 0)) = true := decide_eq_true (by omega)
    refine ag_enter (2) tok Try.func43 Try.ntmps43 Try.results43 rfl (by kernel_rfl) rfl fun F => ?_
    repeat (first | refine gG ?_ | refine zSub ?_ | refine zCap0 ?_ | refine zHn ?_)
    refine zAp0 n h0 hn (fun _ ts => ?_)
    repeat (first | refine gG ?_ | refine zSub ?_ | refine zCap0 ?_ | refine zHn ?_)
    refine zQh (n := n) 0 (Nat.zero_le _) (fun _ => ?_)
    repeat (first | refine gG ?_ | refine zN1 (fun hlen => ?_) | refine zN2 (fun hlen => ?_) | refine zSub ?_ | refine zAp (fun _ => ?_))
    refine zG ?_
    exact ⟨_, rfl, rfl⟩
theorem catS_at {L : List (List ByteArray)} {k : Nat} {a : List ByteArray} (h : L[k]? = some a) : (L.map fun x => strRow x)[k * 1]? = some (strRow a) := by simp [h]
set_option maxRecDepth 100000 in
set_option maxHeartbeats 1000000 in
theorem concatS_af (L : List (List ByteArray)) (hL : L.flatten.length ≤ 1048576) (hl : L.length ≤ 1048576) : AF Try.prog 37 [.row L.length 1 (L.map fun x => strRow x)] (· = strRow L.flatten) := by
  have hg := growS_ag L.flatten.length hL
  refine af_enter tok Try.func37 Try.ntmps37 Try.results37 rfl (by kernel_rfl) rfl rfl fun F hX => ?_
  repeat (first | refine gG ?_ | refine zN1 (fun hlen => ?_) | refine zN2 (fun hlen => ?_) | refine zAp (fun _ => ?_))
  refine x_loop [3, 5, 11, 12, 13, 14, 15, 16, 17, 18, 19, 20, 21, 22] (fun k : Nat => [(11, .c (.lit (.int .i64 (k : Nat)))), (3, .c (.lit (.int .i64 ((L.take k).flatten.length : Nat))))]) (fun _ => []) (fun k => k ≤ L.length) (fun k => L.length - k) 0 (Nat.zero_le _) ⟨rfl, rfl, trivial⟩ rfl ?_
  intro k hk
  repeat (first | refine gG ?_ | refine zN1 (fun hlen => ?_) | refine zN2 (fun hlen => ?_) | refine zAp (fun _ => ?_))
  refine x_cond rfl (fun h => ?_) (fun h => ?_)
  · have hk' : k < L.length := by simpa using h
    obtain ⟨a, ha⟩ := nth hk'
    have hat := catS_at ha
    have hsn : (L.take (k + 1)).flatten.length = (L.take k).flatten.length + a.length := by rw [List.take_add_one, ha]; simp
    have hle : (L.take (k + 1)).flatten.length ≤ L.flatten.length := by
      have := congrArg (fun r => r.flatten.length) (List.take_append_drop (k + 1) L)
      simp only [List.flatten_append, List.length_append] at this
      omega
    have d0 : decide ((((L.take k).flatten.length + a.length : Nat) : Int) < 0) = false := decide_eq_false (by omega)
    clear h ha
    repeat (first | refine gG ?_ | refine zN1 (fun hlen => ?_) | refine zN2 (fun hlen => ?_) | refine zAp (fun _ => ?_))
    refine zIx k hk' ?_
    repeat (first | refine gG ?_ | refine zN1 (fun hlen => ?_) | refine zN2 (fun hlen => ?_) | refine zAp (fun _ => ?_))
    refine zEl1 hat ?_
    repeat (first | refine gA ?_ | refine zN1 (fun hlen => ?_) | refine zN2 (fun hlen => ?_))
    exact ⟨k + 1, hk', by omega, x_wkd 0 ⟨rfl, by rw [hsn]; rfl, trivial⟩ rfl (by repeat (first | exact ag_refl | refine ag_upd rfl ?_ | refine ag_at rfl rfl ?_))⟩
  have hk' : k = L.length := by
    have : ¬ k < L.length := by simpa using h
    omega
  subst hk'
  clear h hk
  rw [List.take_length]
  repeat (first | refine gG ?_ | refine zN1 (fun hlen => ?_) | refine zN2 (fun hlen => ?_) | refine zAp (fun _ => ?_))
  refine zCallG [] hg ?_
  rintro _ _ ⟨v', rfl, rfl⟩
  refine ⟨.own 0 v', _, re_own, rfl, rfl, ?_⟩
  clear hg
  repeat (first | refine gG ?_ | refine zN1 (fun hlen => ?_) | refine zN2 (fun hlen => ?_) | refine zAp (fun _ => ?_))
  refine x_loop [6, 8, 27, 28, 29, 30, 31, 32, 33, 34] (fun y : Nat × Value => [(27, .c (.lit (.int .i64 (y.1 : Nat)))), (6, .own 0 y.2)]) (fun y => [.row y.2 9 1 (L.take y.1).flatten.length (strAll (L.take y.1).flatten)]) (fun y => y.1 ≤ L.length) (fun y => L.length - y.1) (0, v') (Nat.zero_le _) ⟨rfl, rfl, trivial⟩ rfl ?_
  rintro ⟨k, v⟩ hk
  dsimp only at hk ⊢
  repeat (first | refine gG ?_ | refine zN1 (fun hlen => ?_) | refine zN2 (fun hlen => ?_) | refine zAp (fun _ => ?_))
  refine x_cond rfl (fun h => ?_) (fun h => ?_)
  · have hk' : k < L.length := by simpa using h
    obtain ⟨a, ha⟩ := nth hk'
    have hat := catS_at ha
    have hsn : (L.take (k + 1)).flatten = (L.take k).flatten ++ a := by rw [List.take_add_one, ha]; simp
    have hle : (L.take (k + 1)).flatten.length ≤ L.flatten.length := by
      have := congrArg (fun r => r.flatten.length) (List.take_append_drop (k + 1) L)
      simp only [List.flatten_append, List.length_append] at this
      omega
    have hl1 : (L.take (k + 1)).flatten.length = (L.take k).flatten.length + a.length := by rw [hsn, List.length_append]
    have hc1 : strAll (L.take (k + 1)).flatten = strAll (L.take k).flatten ++ strAll a := by rw [hsn]; exact strAll_app _ _
    clear h ha hsn
    repeat (first | refine gG ?_ | refine zN1 (fun hlen => ?_) | refine zN2 (fun hlen => ?_) | refine zAp (fun _ => ?_))
    refine zIx k hk' ?_
    repeat (first | refine gG ?_ | refine zN1 (fun hlen => ?_) | refine zN2 (fun hlen => ?_) | refine zAp (fun _ => ?_))
    refine zEl1 hat ?_
    repeat (first | refine gG ?_ | refine zN1 (fun hlen => ?_) | refine zN2 (fun hlen => ?_) | refine zAp (fun _ => ?_))
    exact ⟨(k + 1, _), hk', by simp only; omega, x_wkd 1 ⟨rfl, rfl, trivial⟩ (by simp only [hl1, hc1]; rfl) (by repeat (first | exact ag_refl | refine ag_upd rfl ?_ | refine ag_at rfl rfl ?_))⟩
  · have hk' : k = L.length := by
      have : ¬ k < L.length := by simpa using h
      omega
    subst hk'
    clear h
    rw [List.take_length]
    repeat (first | refine gG ?_ | refine zN1 (fun hlen => ?_) | refine zN2 (fun hlen => ?_) | refine zAp (fun _ => ?_))
    first | refine zR ?_ | refine zQ ?_
    rfl
theorem catS2_af (a b : List ByteArray) (h : a.length + b.length ≤ 1048576) : AF Try.prog 37 [.row 2 1 [strRow a, strRow b]] (· = strRow (a ++ b)) := by
  have := concatS_af [a, b] (by simpa using h) (by simp)
  simpa using this
end Go.Proofs.Ytldhlbjengpdbaa
