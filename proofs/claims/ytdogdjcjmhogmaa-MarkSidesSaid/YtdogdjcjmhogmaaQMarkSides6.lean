/-
  Texts of this proof, part 6: Ab47 Ir Tab Kma Kmb.
-/
import Derived.Test.YtdogdjcjmhogmaaQMarkSides5
import Derived.Laws.IdiomRangeMap
import Derived.Lib.AppendZerosOnto
import Derived.Lib.MinMax
import Derived.Test.YtdogdjcjmhogmaaProg
namespace Go.Proofs.Ytdogdjcjmhogmaa
open Go.RowKit
def Dj (x y : Blk) : Prop := ∀ b, x.blk = some b → y.blk ≠ some b
theorem Dj.symm {x y : Blk} (h : Dj x y) : Dj y x := fun b h1 h2 => h b h2 h1
structure HpOk (F : Frm) (M : Mm) (hp : List Blk) (w : World) : Prop where
  mem : MemOk M w
  ext : Ext F.may F.M0 M
  frm : Keeps F w
  at_ : ∀ x ∈ hp, BlkOk M w x
  sep : hp.Pairwise Dj
  out : ∀ x ∈ hp, ∀ b, x.blk = some b → F.may b ∧ ∀ p : Addr, p.block = b → M p = none
section
variable {F : Frm} {M : Mm} {hp hp' : List Blk} {w : World}
theorem HeapOk.all (h : HeapOk F M hp w) : HpOk F M hp w := by
  refine ⟨h.mem, h.ext, h.frm, fun x hx => ?_, ?_, fun x hx b hb => ?_⟩
  · obtain ⟨i, hi⟩ := List.getElem?_of_mem hx
    exact h.at_ i x hi
  · rw [List.pairwise_iff_getElem]
    intro i j hi hj hij b h1 h2
    have := h.sep i j _ _ b (List.getElem?_eq_getElem hi) (List.getElem?_eq_getElem hj) h1 h2
    omega
  · obtain ⟨i, hi⟩ := List.getElem?_of_mem hx
    exact h.out i x b hi hb
theorem HpOk.heap (h : HpOk F M hp w) : HeapOk F M hp w := by
  have hs := List.pairwise_iff_getElem.1 h.sep
  refine ⟨h.mem, h.ext, h.frm, fun i x hi => h.at_ x (List.mem_of_getElem? hi), fun i j x y b hi hj hx hy => ?_, fun i x b hi hb => h.out x (List.mem_of_getElem? hi) b hb⟩
  obtain ⟨hi', rfl⟩ := List.getElem?_eq_some_iff.1 hi
  obtain ⟨hj', rfl⟩ := List.getElem?_eq_some_iff.1 hj
  rcases Nat.lt_trichotomy i j with hlt | rfl | hlt
  · exact absurd hy (hs i j hi' hj' hlt b hx)
  · rfl
  · exact absurd hx (hs j i hj' hi' hlt b hy)
theorem HeapOk.perm (h : HeapOk F M hp w) (hq : hp.Perm hp') : HeapOk F M hp' w :=
  let h := h.all
  HpOk.heap ⟨h.mem, h.ext, h.frm, fun x hx => h.at_ x (hq.mem_iff.2 hx), (hq.pairwise_iff (fun h => Dj.symm h)).1 h.sep, fun x hx => h.out x (hq.mem_iff.2 hx)⟩
theorem wk_perm {τ : Nat → AV} {N : Nat} (hq : hp.Perm hp') : Wk F ⟨τ, hp, N⟩ ⟨τ, hp', N⟩ := fun M _ _ hr => ⟨M, hr.tmps, hr.size, hr.defers, hr.heap.perm hq⟩
theorem sub_gx2 {A B : List Blk} (h : HeapOk F M (A ++ B) w) : ∀ x ∈ globTab, ¬ ∃ (i : Nat) (y : Blk), A[i]? = some y ∧ y.blk = some x.1 := by
  rintro x hx ⟨i, y, h1, h2⟩
  obtain ⟨t, fr, e⟩ := F.G x hx
  rcases (h.all.out y (List.mem_append_left _ (List.mem_of_getElem? h1)) x.1 h2).1 with h4 | h4
  · exact F.GX x hx h4
  · have := (Array.getElem?_eq_some_iff.1 e).1; omega
theorem HeapOk.part {A B : List Blk} (h : HeapOk F M (A ++ B) w) : HeapOk (subF M A w h.glob (sub_gx2 h)) M A w := by
  have hq := h.all
  refine HpOk.heap ⟨h.mem, Ext.refl _ _, ⟨rfl, rfl, rfl, Nat.le_refl _, fun _ _ _ => rfl⟩, fun x hx => hq.at_ x (List.mem_append_left _ hx), (List.pairwise_append.1 hq.sep).1, fun x hx b hb => ?_⟩
  obtain ⟨i, hi⟩ := List.getElem?_of_mem hx
  exact ⟨.inl ⟨i, x, hi, hb⟩, (hq.out x (List.mem_append_left _ hx) b hb).2⟩
theorem part_may {A B : List Blk} (h : HeapOk F M (A ++ B) w) (b : Nat) (hb : (subF M A w h.glob (sub_gx2 h)).may b) : F.may b := by
  rcases hb with ⟨i, x, hx, hxb⟩ | hb
  · exact (h.all.out x (List.mem_append_left _ (List.mem_of_getElem? hx)) b hxb).1
  · exact .inr (Nat.le_trans h.frm.size hb)
theorem HeapOk.join {A B A' : List Blk} {M' : Mm} {w' : World} (h : HeapOk F M (A ++ B) w) (h2 : HeapOk (subF M A w h.glob (sub_gx2 h)) M' A' w') : HeapOk F M' (A' ++ B) w' := by
  have hq := h.all
  have hq2 := h2.all
  have hM : Ext (subF M A w h.glob (sub_gx2 h)).may M M' := h2.ext
  have hX : ∀ b, (subF M A w h.glob (sub_gx2 h)).X b → ∃ x ∈ A, x.blk = some b := by
    rintro b ⟨i, x, hx, hb⟩
    exact ⟨x, List.mem_of_getElem? hx, hb⟩
  have hsep := List.pairwise_append.1 hq.sep
  have hold : ∀ x ∈ B, ∀ b, x.blk = some b → b < w.heap.size ∧ ¬ (subF M A w h.glob (sub_gx2 h)).X b := by
    intro x hx b hb
    refine ⟨(hq.at_ x (List.mem_append_right _ hx)).lt hb, fun hXb => ?_⟩
    obtain ⟨y, hy, hyb⟩ := hX b hXb
    exact hsep.2.2 y hy x hx b hyb hb
  refine HpOk.heap ⟨h2.mem, h.ext.trans (hM.to (part_may h)), ⟨h2.frm.os.trans h.frm.os, h2.frm.tape.trans h.frm.tape, h2.frm.output.trans h.frm.output, Nat.le_trans h.frm.size h2.frm.size, fun b hb hnX => ?_⟩, fun x hx => ?_, List.pairwise_append.2 ⟨hq2.sep, hsep.2.1, fun x hx y hy b hxb hyb => ?_⟩, fun x hx b hxb => ?_⟩
  · refine (h2.frm.block b (Nat.lt_of_lt_of_le hb h.frm.size) fun hXb => ?_).trans (h.frm.block b hb hnX)
    obtain ⟨y, hy, hyb⟩ := hX b hXb
    rcases (hq.out y (List.mem_append_left _ hy) b hyb).1 with h3 | h3
    · exact hnX h3
    · omega
  · rcases List.mem_append.1 hx with hx | hx
    · exact hq2.at_ x hx
    · exact (hq.at_ x (List.mem_append_right _ hx)).keep hM.sub fun b hb hlt => h2.frm.block b hlt (hold x hx b hb).2
  · obtain ⟨h3, h4⟩ := hold y hy b hyb
    rcases (hq2.out x hx b hxb).1 with h5 | h5
    · exact h4 h5
    · have : w.heap.size ≤ b := h5
      omega
  · rcases List.mem_append.1 hx with hx | hx
    · obtain ⟨h3, h4⟩ := hq2.out x hx b hxb
      refine ⟨?_, h4⟩
      rcases h3 with h5 | h5
      · obtain ⟨y, hy, hyb⟩ := hX b h5
        exact (hq.out y (List.mem_append_left _ hy) b hyb).1
      · exact .inr (Nat.le_trans h.frm.size h5)
    · obtain ⟨h3, h4⟩ := hq.out x (List.mem_append_right _ hx) b hxb
      refine ⟨h3, fun p hp' => ?_⟩
      have hlt := hold x hx b hxb
      cases hc : M' p with
      | none => rfl
      | some v =>
        rcases hM.2 p v hc with h5 | h5
        · rw [h4 p hp'] at h5; cases h5
        · rcases h5 with h6 | h6
          · exact absurd (hp' ▸ h6) hlt.2
          · have h7 : w.heap.size ≤ p.block := h6
            omega
end
section
variable {P : Program} {F : Frm} {Q : Exit → AS → Prop} {τ : Nat → AV} {hp hp' : List Blk} {N : Nat}
theorem x_perm {c : Go.Code} (hq : hp.Perm hp') (h : AC P F c Q ⟨τ, hp', N⟩) : AC P F c Q ⟨τ, hp, N⟩ := ac_wk (wk_perm hq) h
theorem x_eq {c : Go.Code} (hq : hp = hp') (h : AC P F c Q ⟨τ, hp', N⟩) : AC P F c Q ⟨τ, hp, N⟩ := by subst hq; exact h
/-- the code touches the blocks of A alone -/
theorem x_frame {c : Go.Code} (A B : List Blk) (hq : hp.Perm (A ++ B)) (h : ∀ F', AC P F' c (fun e σ' => Q e ⟨σ'.tmps, σ'.hp ++ B, σ'.N⟩) ⟨τ, A, N⟩) : AC P F c Q ⟨τ, hp, N⟩ := by
  refine x_perm hq ⟨fun M a w hr => ?_⟩
  have hh := hr.heap
  refine wp_mono ((h (subF M A w hh.glob (sub_gx2 hh))).out M a w ⟨hr.tmps, hr.size, hr.defers, hh.part⟩) ?_
  rintro e a' w' ⟨M', σ', hq', hr'⟩
  exact ⟨M', _, hq', hr'.tmps, hr'.size, hr'.defers, hh.join hr'.heap⟩
/-- nil in a slot becomes a row of the call's own, anywhere among the blocks -/
theorem x_ownP {c : Go.Code} (s : Nat) (e : TypeId) (sz : Nat) (k : Nat) (hq : (hp ++ [Blk.row (.slice none 0 0) e sz 0 []]).Perm hp') (h : AC P F c Q ⟨upd N s (.own k (.slice none 0 0)) τ, hp', N⟩) (h0 : Nat.ble 1 sz = true := by exact rfl) (hs : τ s = .c (.lit (.slice none 0 0)) := by exact rfl) : AC P F c Q ⟨τ, hp, N⟩ := by
  refine ac_wk ?_ h
  intro M a w hr
  have hh : HeapOk F M (hp ++ [.row (.slice none 0 0) e sz 0 []]) w :=
    push_row hr.heap rfl rfl rfl (Nat.le_refl _) (fun _ _ => rfl) (Ext.refl _ _) (fun p v h1 h2 => by rw [h2] at h1; cases h1) ⟨[], ownsO_nil _ _ _, by simp only [RTs], fun x hx => by simp at hx, Nat.le_of_ble_eq_true h0⟩ (fun b hb => by simp [Blk.blk, Value.ownBlock] at hb)
  refine ⟨M, fun i => ?_, hr.size, hr.defers, hh.perm hq⟩
  have h1 := hr.tmps i
  simp only [upd]
  cases hc : Nat.beq i s with
  | false => simp only [Bool.false_and, cond_false]; exact h1
  | true =>
    obtain rfl := Nat.eq_of_beq_eq_true hc
    cases hN : Nat.blt i N with
    | false => simp only [Bool.and_false, cond_false]; exact h1
    | true =>
      simp only [hs, RA, RT] at h1
      simp only [Bool.and_true, cond_true, RA]
      exact ⟨h1, rfl⟩
/-- a row of the call's own becomes memory that only is read -/
theorem x_fzS {c : Go.Code} (s : Nat) {i : Nat} {v : Value} {e : TypeId} {sz n : Nat} {ts : List T} (h : AC P F c Q ⟨upd N s (.c (.row n sz ts)) τ, hp.set i .dead, N⟩) (hs : τ s = .own i v := by exact rfl) (hi : hp[i]? = some (.row v e sz n ts) := by exact rfl) : AC P F c Q ⟨τ, hp, N⟩ := by
  refine ac_wk ?_ h
  intro M a w hr
  obtain ⟨h1, h2⟩ := heap_frz hr.heap hi
  refine ⟨_, fun k => ?_, hr.size, hr.defers, h1⟩
  have h3 := hr.tmps k
  simp only [upd]
  cases hc : Nat.beq k s with
  | false => simp only [Bool.false_and, cond_false]; exact RA.mono (frB_sub _ _ _) _ _ h3
  | true =>
    obtain rfl := Nat.eq_of_beq_eq_true hc
    cases hN : Nat.blt k N with
    | false => simp only [Bool.and_false, cond_false]; exact RA.mono (frB_sub _ _ _) _ _ h3
    | true =>
      simp only [hs, RA] at h3
      simp only [Bool.and_true, cond_true, RA]
      rw [h3.1]; exact h2
/-- rows that are nil -/
theorem wk_nils (e : TypeId) (sz : Nat) (h0 : 0 < sz) : ∀ n : Nat, Wk F ⟨τ, hp, N⟩ ⟨τ, hp ++ List.replicate n (.row (.slice none 0 0) e sz 0 []), N⟩
  | 0 => by simpa using Wk.refl _
  | n + 1 => by
    refine Wk.trans (wk_nils e sz h0 n) ?_
    intro M a w hr
    refine ⟨M, hr.tmps, hr.size, hr.defers, ?_⟩
    have := push_row hr.heap rfl rfl rfl (Nat.le_refl _) (fun _ _ => rfl) (Ext.refl _ _) (fun p v h1 h2 => by rw [h2] at h1; cases h1) (x := .row (.slice none 0 0) e sz 0 []) ⟨[], ownsO_nil _ _ _, by simp only [RTs], fun x hx => by simp at hx, h0⟩ (fun b hb => by simp [Blk.blk, Value.ownBlock] at hb)
    rw [List.replicate_succ', ← List.append_assoc]
    exact this
/-- what a variable holds, said otherwise -/
theorem wk_boxR (i : Nat) {b : Nat} {t : TypeId} {cs : List AV} (cs' : List AV) (hi : hp[i]? = some (.box b t cs)) (hz : Res cs cs') : Wk F ⟨τ, hp, N⟩ ⟨τ, hp.set i (.box b t cs'), N⟩ := by
  intro M a w hr
  refine ⟨M, hr.tmps, hr.size, hr.defers, hr.heap.step i rfl rfl rfl (Nat.le_refl _) (fun _ _ _ => rfl) (Ext.refl _ _) (fun p v h1 h2 => by rw [h2] at h1; cases h1) (fun j hj => by rw [List.getElem?_set_ne (Ne.symm hj)]) (fun x' hx' => ?_)⟩
  have hlt : i < hp.length := (List.getElem?_eq_some_iff.1 hi).1
  rw [List.getElem?_set_self hlt] at hx'
  obtain rfl : Blk.box b t cs' = x' := by injection hx'
  obtain ⟨xs, h1, h2, h3⟩ := hr.heap.at_ i _ hi
  exact ⟨⟨xs, h1, hz _ _ h2, h3⟩, fun b' hb' => .inl ⟨_, hi, hb'⟩⟩
theorem x_boxR {c : Go.Code} (i : Nat) (cs' : List AV) {b : Nat} {t : TypeId} {cs : List AV} (h : AC P F c Q ⟨τ, hp', N⟩) (hi : hp[i]? = some (.box b t cs) := by exact rfl) (hz : Res cs cs' := by repeat (first | exact res_nil | apply res_cons | exact re_own | exact re_ptr | exact re_refl)) (hf : evl (hp.set i (.box b t cs')) = some hp' := by exact rfl) : AC P F c Q ⟨τ, hp, N⟩ :=
  ac_wk (wk_boxR i cs' hi hz) (by rw [← evl_eq hf]; exact h)
end
section
variable {P : Program} {F : Frm} {o : Oper} {ρ : Operand → AV} {hp : List Blk} {K : AV → List Blk → Prop}
/-- an operation touches the blocks of A alone -/
theorem lo_frame (A B : List Blk) (hq : hp.Perm (A ++ B)) (h : ∀ F', LO P F' o ρ A (fun v A' => K v (A' ++ B))) : LO P F o ρ hp K := by
  refine ⟨fun M e w he hh => ?_⟩
  have hh := hh.perm hq
  refine ((h (subF M A w hh.glob (sub_gx2 hh))).out M e w he hh.part).mono ?_
  rintro u w' ⟨M', v, A', hK, hx, hh2, hr⟩
  exact ⟨M', v, _, hK, hx.to (part_may hh), hh.join hh2, hr⟩
/-- what comes out is a row of the call's own -/
theorem lo_as (j : Nat) (h : LO P F o ρ hp fun a hp' => ∃ v e sz n cs, a = .c (.lit v) ∧ hp'[j]? = some (.row v e sz n cs) ∧ K (.own j v) hp') : LO P F o ρ hp K := by
  refine ⟨fun M e w he hh => (h.out M e w he hh).mono ?_⟩
  rintro u w' ⟨M', a, hp', ⟨v, e, sz, n, cs, rfl, hj, hK⟩, hx, hh2, hr⟩
  have h1 : v.oneCell' = true := by
    obtain ⟨xs, ho, _⟩ := hh2.at_ j _ hj
    exact own_oneO ho
  exact ⟨M', _, hp', hK, hx, hh2, by simp only [RA, RT] at hr ⊢; exact ⟨hr, h1⟩⟩
end
theorem zGS {L : Tab} {σ : AS} {res : List ResultVar} {k : Nat} {R : AV → List Blk → Prop} {e : Exit} {vs : List AV} {hq : List Blk} (hh : σ.hp.take k = hq) (h : R (outA vs) hq) (he : e = .normal ∨ e = .ret := by first | exact .inl rfl | exact .inr rfl)
    (ho : OutsA L σ res vs := by repeat (first | exact outsA_nil | apply outsA_cons | (apply outA_tmp; (focus exact rfl)) | (apply outA_agg; (focus exact rfl); (focus exact rfl); (focus exact rfl); (focus exact rfl); (focus exact rfl); (focus exact rfl)) | (apply outA_one; (focus exact rfl); (focus exact rfl); (focus exact rfl); (focus exact rfl); (focus exact rfl)))) : FinG L res k R e σ := ⟨he, vs, ho, by rw [hh]; exact h⟩
/-- what lies in cells, asq closed trees -/
def Shut (v : AV) (ts : List T) : Prop := ∀ M u, RA M v u → RTs M ts u.cells.toList ∧ OneAll u.cells.toList
theorem shut_own {i : Nat} {v : Value} : Shut (.own i v) [.lit v] := by
  intro M u h
  simp only [RA] at h
  obtain ⟨rfl, h1⟩ := h
  rw [cells_one h1]
  exact ⟨by simp [RTs, RT], fun x hx => by simp at hx; rw [hx]; exact h1⟩
section
variable {P : Program} {F : Frm} {L : Tab} {d : Option Tmp} {ty : TypeId} {pos : String} {aft : Array Edge} {g : Option (Nat × Bool)} {ρ : Operand → AV} {hp : List Blk} {K : AV → List Blk → Prop}
/-- a call that is handed all the blocks -/
theorem zCallAll {f : FuncId} {y : Operand} {xs : List Operand} {ats : Array TypeId} {asq cap : List AV} {hs : List Blk} {R : AV → List Blk → Prop} (hc : AG P f asq hs R) (hq : hp.Perm hs) (h : ∀ r hs2, R r hs2 → ∃ r', Re r r' ∧ K r' hs2) (hy : ρ y = .fn (.func f) cap := by exact rfl)
    (hx : Res (xs.map ρ ++ cap) asq := by repeat (first | exact res_nil | apply res_cons | exact re_own | exact re_ptr | exact re_refl | apply re_cls | exact rzs_nil | apply rzs_cons | exact rz_c | exact rz_nil rfl | apply rz_agg | apply rz_fn | apply rz_tup)) :
    LO P F ⟨d, .call { callee := .value y, args := xs.toArray, argTypes := ats }, ty, pos, aft, g⟩ ρ hp K := by
  refine ⟨fun M e w he hh => ?_⟩
  obtain ⟨hE, hcall⟩ := hc
  have h1 := he y (by simp [Op.operands, Call.operands])
  rw [hy] at h1
  simp only [RA] at h1
  obtain ⟨cs, hu, hcs⟩ := h1
  rw [run_call hE hu]
  have hargs := hx M _ ((ev_all xs (fun x hx => he x (by simp [Op.operands, Call.operands, hx]))).app hcs)
  refine (hcall F M w _ (hh.perm hq) hargs).mono ?_
  rintro e' w' ⟨v, r, hs2, M', rfl, hR, hM, hh2, hr⟩
  obtain ⟨r', hre, hK⟩ := h r hs2 hR
  exact ⟨v, rfl, M', r', hs2, hK, hM, hh2, hre M' v hr⟩
/-- a call that looks at the caller's own, and hands back a fresh row of flat cells, which only is read from here on -/
theorem zPeekC {f : FuncId} {y : Operand} {xs : List Operand} {ats : Array TypeId} {ts : List T} {R : AV → List Blk → Prop} {cap : List AV} {e : TypeId} {sz n : Nat} {cs : List T} (hc : AG P f (ts.map .c) [] R) (hR : ∀ r hs, R r hs → ∃ v, r = .own 0 v ∧ hs = [.row v e sz n cs]) (hfl : flatTs cs = true) (h : K (.c (.row n sz cs)) hp) (hy : ρ y = .fn (.func f) cap := by exact rfl)
    (hx : Rz2s hp (xs.map ρ ++ cap) ts := by repeat (first | exact rz2s_nil | apply rz2s_cons | apply rz2_fn | (apply rz2_ptr; (focus exact rfl)) | apply rz2_c | apply rz2_own | apply rz2_agg | exact rzs_nil | apply rzs_cons | exact rz_c | exact rz_nil rfl | apply rz_agg | exact rz_own rfl | apply rz_fn | exact rz_ptr rfl | apply rz_tup)) : LO P F ⟨d, .call { callee := .value y, args := xs.toArray, argTypes := ats }, ty, pos, aft, g⟩ ρ hp K := by
  refine ⟨fun M ev w he hh => ?_⟩
  obtain ⟨hE, hcall⟩ := hc
  have h1 := he y (by simp [Op.operands, Call.operands])
  rw [hy] at h1
  simp only [RA] at h1
  obtain ⟨us, hu, hcs⟩ := h1
  rw [run_call hE hu]
  have hargs := rz2s_sound hh (B := 0) (fun _ _ _ _ _ => Nat.zero_le _) _ _ _ hx ((ev_all xs (fun x hx => he x (by simp [Op.operands, Call.operands, hx]))).app hcs)
  have hH : HeapOk ⟨w, fun _ => False, frz M 0 w, hh.glob, fun _ _ h => h⟩ (frz M 0 w) [] w :=
    ⟨frz_ok hh.mem 0, Ext.refl _ _, ⟨rfl, rfl, rfl, Nat.le_refl _, fun _ _ _ => rfl⟩, fun i x hx => by simp at hx, fun i j x y b hx => by simp at hx, fun i x b hx => by simp at hx⟩
  refine (hcall _ _ w _ hH (RAs.ofT hargs)).mono ?_
  rintro e' w' ⟨u, r, hs', M', rfl, hr, _, hh2, hru⟩
  obtain ⟨v, rfl, rfl⟩ := hR r hs' hr
  obtain ⟨vs, ho, hrs, hone, h0⟩ := hh2.at_ 0 _ rfl
  have hp1 : HeapOk F M (hp ++ [.row v e sz n cs]) w' := by
    refine push_row hh hh2.frm.os hh2.frm.tape hh2.frm.output hh2.frm.size (fun b hb => hh2.frm.block b hb (fun h => h)) (Ext.refl _ _) (fun p v h1 h2 => by rw [h2] at h1; cases h1) ⟨vs, ho, flats_any _ _ hfl hrs, hone, h0⟩ (fun b hb => ?_)
    obtain ⟨h3, _⟩ := hh2.out 0 _ b rfl hb
    have h4 : w.heap.size ≤ b := h3.resolve_left (fun h => h)
    refine ⟨h4, fun p hp => ?_⟩
    cases hm : M p with
    | none => rfl
    | some z =>
      have := World.block_lt_of_cell? w p (hh.mem p z hm).1
      omega
  obtain ⟨h5, h6⟩ := heap_frz hp1 (i := hp.length) (v := v) (e := e) (sz := sz) (n := n) (ts := cs) (by simp)
  have h7 := h5.take hp.length
  rw [List.take_set_of_le (Nat.le_refl _), List.take_left] at h7
  simp only [RA] at hru
  rw [hru.1]
  refine ⟨v, rfl, _, _, hp, h, ⟨frB_sub _ _ _, fun p z hz => ?_⟩, h7, by simp only [RA]; exact h6⟩
  cases hm : M p with
  | some z' =>
    have := frB_sub M v.ownBlock w' p z' hm
    rw [hz] at this
    exact .inl (by rw [← this])
  | none =>
    obtain ⟨hg, _⟩ := frB_new hz hm
    exact .inr (hp1.out hp.length (.row v e sz n cs) p.block (by simp) hg).1
/-- a store into a row of the call's own, of what can be said asq closed trees -/
theorem lo_store_eG (hL : TabOk P L) {t : TypeId} {ti : TI} {x y : Operand} {i off n sz : Nat} {v : Value} {e' : TypeId} {cs us : List T} (hx : ρ x = .eptr i v off) (hi : hp[i]? = some (.row v e' sz n cs)) (hy : Shut (ρ y) us) (ht : L.look t = some ti) (hl : us.length = ti.size) (hb : off + ti.size ≤ cs.length)
    (h : K (.c (.lit undef)) (hp.set i (.row v e' sz n (spl cs off us)))) : LO P F ⟨d, .store t x y, ty, pos, aft, g⟩ ρ hp K := by
  refine ⟨fun M e w he hh => ?_⟩
  have hax := he x (by simp [Op.operands])
  rw [hx] at hax
  simp only [RA] at hax
  obtain ⟨ad, m, c, rfl, hax⟩ := hax
  have hvy := he y (by simp [Op.operands])
  obtain ⟨hct, ho⟩ := hy M _ hvy
  obtain ⟨xs, how, hxs, hone, hsz⟩ := hh.at_ i _ hi
  have hlen := hxs.len
  have hcl := hct.len
  have hcs : (e y).cells.size = ti.size := by rw [← hl, ← hcl]; simp
  rcases how.2 with ⟨h0, _⟩ | ⟨g', o', cap, cur, hv, hg, hnc, hcm, hcur, htk⟩
  · cases h0
  · have hA : ad = ⟨g', o', none⟩ := by injection hv with h; injection h
    have hmn : m = n := by injection hv
    have hcc : c = cap := by injection hv
    subst hA; subst hmn; subst hcc
    have hxl := how.1
    have hoff : off + (e y).cells.toList.length ≤ xs.length := by rw [hlen]; simp [hcs]; omega
    have hcl2 : o' + xs.length ≤ cur.size := by rw [hxl]; have := Nat.mul_le_mul_right sz hnc; omega
    have hst := run_storeCells_at (P := P) g' (o' + off) e' (e y).cells.toList 0 cur w hg (by simp at hoff ⊢; omega) ho
    have hrun : (execOp e ⟨d, .store t x y, ty, pos, aft, g⟩).run P w = .ok .skip (w.setRow g' (spl cur.toList (o' + off) (e y).cells.toList).toArray) := by
      rw [spl_eq _ _ _ (by simp at hoff ⊢; omega)]
      have hadd : (⟨g', o', none⟩ : Addr).add off = ⟨g', o' + off, none⟩ := by rw [box_add]
      simp [execOp, Instr.storeAt, hax, hadd, Instr.sureAddr, storeVar, hL.sizeOf ht, hcs] at hst ⊢
      simp [hst]
    rw [hrun]
    refine ⟨M, _, _, h, Ext.refl _ _, ?_, by simp only [RA, RT]⟩
    have hblk := setRow_heap w g' cur (spl cur.toList (o' + off) (e y).cells.toList).toArray e' _ hg
    refine hh.step i rfl rfl rfl (by simp [World.setRow]) (fun k hk hne => ?_) (Ext.refl _ _) (fun p v h1 h2 => by rw [h2] at h1; cases h1) (fun j hj => by rw [List.getElem?_set_ne (Ne.symm hj)]) (fun x' hx' => ?_)
    · have : k ≠ g' := fun e => hne _ hi (by rw [e]; rfl)
      simp [World.setRow, Array.getElem?_modify, Ne.symm this]
    · have hlt : i < hp.length := (List.getElem?_eq_some_iff.1 hi).1
      rw [List.getElem?_set_self hlt] at hx'
      obtain rfl : Blk.row (.slice (some ⟨g', o', none⟩) m c) e' sz m (spl cs off us) = x' := by injection hx'
      refine ⟨⟨spl xs off (e y).cells.toList, ⟨by rw [spl_len]; exact hxl, .inr ⟨g', o', c, (spl cur.toList (o' + off) (e y).cells.toList).toArray, rfl, hblk, hnc, hcm, by simpa [spl_len] using hcur, ?_⟩⟩, RTs.spl hxs hct, spl_one hone ho, hsz⟩, fun b' hb' => .inl ⟨_, hi, hb'⟩⟩
      simp only
      rw [spl_eq _ _ _ (by simp at hoff ⊢; omega), spl_eq _ _ _ hoff, ← htk]
      have hk : off + (e y).cells.toList.length ≤ m * sz := by rw [← hxl]; exact hoff
      have hcl3 : o' + m * sz ≤ cur.toList.length := by rw [hxl] at hcl2; simpa using hcl2
      rw [drop_spl cur.toList (e y).cells.toList o' off (by omega)]
      exact take_spl (cur.toList.drop o') (e y).cells.toList off (m * sz) hk (by rw [List.length_drop]; omega)
/-- a row or a variable of the call's own put into an element -/
theorem zSeo {t : TypeId} {ti : TI} {x y : Operand} {i j off n sz : Nat} {v u : Value} {e' : TypeId} {cs : List T} (hb : off + 1 ≤ cs.length) (h : K (.c (.lit undef)) (hp.set i (.row v e' sz n (cs.set off (.lit u))))) (hL : TabOk P L := by exact tok) (hx : ρ x = .eptr i v off := by exact rfl) (hi : hp[i]? = some (.row v e' sz n cs) := by exact rfl) (hy : ρ y = .own j u := by exact rfl) (ht : L.look t = some ti := by exact rfl) (hs : ti.size = 1 := by exact rfl) : LO P F ⟨d, .store t x y, ty, pos, aft, g⟩ ρ hp K :=
  lo_store_eG hL hx hi (us := [.lit u]) (by rw [hy]; exact shut_own) ht (by rw [hs]; rfl) (by rw [hs]; exact hb) h
/-- an append where the other blocks are not written out -/
theorem zApS {t el : TypeId} {ti te : TI} {x y : Operand} {i n m sz : Nat} {v : Value} {cs ts : List T} (h : ∀ v', K (.own i v') (hp.set i (.row v' el sz (n + m) (cs ++ ts)))) (hL : TabOk P L := by exact tok) (hx : ρ x = .own i v := by exact rfl) (hi : hp[i]? = some (.row v el sz n cs) := by exact rfl) (hy : ρ y = .c (.row m sz ts) := by exact rfl) (ht : L.look t = some ti := by exact rfl) (hd : ti.d = .slice el := by exact rfl) (hte : L.look el = some te := by exact rfl) (hsz : te.size = sz := by exact rfl)
    (h63 : n + m ≤ maxLen := by first | (simp only [maxLen]; omega) | (simp only [maxLen]; dsimp only at *; omega)) (hbytes : (n + m) * te.bytes ≤ 140737488355328 := by first | (simp only []; omega) | (dsimp only at *; omega)) : LO P F ⟨d, .call { callee := .builtin .append, args := #[x, y], argTypes := #[t, t] }, ty, pos, aft, g⟩ ρ hp K := lo_app hL hx hi hy ht hd hte hsz h63 hbytes h
/-- onto nil, where the other blocks are not written out -/
theorem zApN {t el : TypeId} {ti te : TI} {x y : Operand} {m sz : Nat} {ts : List T} (h : ∀ v', K (.own hp.length v') (hp ++ [.row v' el sz m ts])) (hL : TabOk P L := by exact tok) (hx : ρ x = .c (.lit (.slice none 0 0)) := by exact rfl) (hy : ρ y = .c (.row m sz ts) := by exact rfl) (ht : L.look t = some ti := by exact rfl) (hd : ti.d = .slice el := by exact rfl) (hte : L.look el = some te := by exact rfl) (hsz : te.size = sz := by exact rfl) (h0 : Nat.ble 1 sz = true := by exact rfl)
    (hbytes : m * te.bytes ≤ 140737488355328 := by first | (simp only []; omega) | (dsimp only at *; omega)) : LO P F ⟨d, .call { callee := .builtin .append, args := #[x, y], argTypes := #[t, t] }, ty, pos, aft, g⟩ ρ hp K := lo_app_nil hL hx hy ht hd hte hsz (Nat.le_of_ble_eq_true h0) hbytes h
theorem ra_c {M : Mm} {t : T} {u : Value} (h : RA M (.c t) u) : RT M t u := by simpa only [RA] using h
theorem ra_o {M : Mm} {j : Nat} {v u : Value} (h : RA M (.own j v) u) : RT M (.lit v) u := by simp only [RA, RT] at h ⊢; exact h.1
theorem ra_p {M : Mm} {j b off : Nat} {u : Value} (h : RA M (.ptr j b off) u) : RT M (.lit (.pointer (some ⟨b, off, none⟩))) u := by simp only [RA, RT] at h ⊢; exact h
/-- an update where the other blocks are not written out -/
theorem zUpiS (kT eT : TypeId) {xT : TypeId} {x y z : Operand} {i b : Nat} {s : Int} {l l' : List (Int × T)} {t : T} (hm : mput s t l = l') (h : K (.c (.lit undef)) (hp.set i (.mp b (mkeys (Value.int .i64) l')))) (hu : isMap P xT = some (kT, eT) := by kernel_rfl) (hk : P.underlying kT = some (.int .i64) := by kernel_rfl) (hx : ρ x = .own i (.map (some b)) := by exact rfl) (hi : hp[i]? = some (.mp b (mkeys (Value.int .i64) l)) := by exact rfl) (hy : ρ y = .c (.lit (.int .i64 s)) := by exact rfl) (hz : ∀ M u, RA M (ρ z) u → RT M t u := by first | exact fun _ _ h => ra_c h | exact fun _ _ h => ra_o h | exact fun _ _ h => ra_p h) :
    LO P F ⟨d, .mapUpdate xT x y z, ty, pos, aft, g⟩ ρ hp K := lo_mapUpdate (keyInt .i64) (isMap_eq hu) hk hx hi hy hz (.inl rfl) (by rw [hm]; exact h)
end
theorem wk_frzqS {F : Frm} {τ : Nat → AV} {hp : List Blk} {N : Nat} (s : Nat) (ts : List T) {i j b off : Nat} {t : TypeId} {cs : List AV} (hs : τ s = .ptr j b off) (hi : hp[i]? = some (.box b t cs)) (hz : Rzs [] cs ts) (hN : Nat.blt s N = true) : Wk F ⟨τ, hp, N⟩ ⟨upd N s (.c (.pin ts off)) τ, hp.set i .dead, N⟩ := by
  intro M a w hr
  have h1 := heap_frzG hr.heap hi
  obtain ⟨xs, hh, hx, hone⟩ := hr.heap.at_ i _ hi
  have h2 : RT (frB M (Blk.box b t cs).blk w) (.pin ts off) (.pointer (some ⟨b, off, none⟩)) := by
    simp only [RT]
    refine ⟨⟨b, 0, none⟩, xs, by unfold Addr.add; split <;> simp_all, fun j x hj => ?_, RTs.mono (frB_sub _ _ _) _ _ (cls_sound cs ts xs hz hx)⟩
    have hadd : (⟨b, 0, none⟩ : Addr).add j = ⟨b, j, none⟩ := by unfold Addr.add; split <;> simp_all
    rw [hadd]
    have hn : M ⟨b, j, none⟩ = none := (hr.heap.out i _ b hi rfl).2 _ rfl
    have hc : w.cell? ⟨b, j, none⟩ = some x := by rw [cell_of_row _ b j _ _ _ hh]; simpa using hj
    simp [frB, hn, Blk.blk, hc, hone x (List.mem_of_getElem? hj)]
  refine ⟨_, fun k => ?_, hr.size, hr.defers, h1⟩
  simp only [upd]
  cases hc : Nat.beq k s with
  | false => simp only [Bool.false_and, cond_false]; exact RA.mono (frB_sub _ _ _) _ _ (hr.tmps k)
  | true =>
    have := Nat.eq_of_beq_eq_true hc
    subst this
    have h3 : RA M (τ k) (a.tmps.getD k undef) := hr.tmps k
    rw [hs] at h3
    simp only [RA] at h3
    rw [hN]
    simp only [Bool.and_self, cond_true, RA]
    rw [h3]; exact h2
/-- a variable at the head of the blocks becomes closed memory -/
theorem x_frz0 {F : Frm} {P : Program} {Q : Exit → AS → Prop} {c : Go.Code} {τ : Nat → AV} {hp : List Blk} {N : Nat} (s : Nat) (ts : List T) {i b off : Nat} {t : TypeId} {cs : List AV} (h : AC P F c Q ⟨upd N s (.c (.pin ts off)) τ, hp, N⟩) (hs : τ s = .ptr i b off := by exact rfl) (hz : Rzs [] cs ts := by repeat (first | exact rzs_nil | apply rzs_cons | exact rz_c | exact rz_nil rfl | apply rz_agg | exact rz_own rfl | apply rz_fn | exact rz_ptr rfl | apply rz_tup)) (hN : Nat.blt s N = true := by exact rfl) : AC P F c Q ⟨τ, .box b t cs :: hp, N⟩ := by
  refine ac_wk (wk_frzqS (i := 0) s ts hs rfl hz hN) ?_
  show AC P F c Q ⟨_, .dead :: hp, N⟩
  refine x_perm (hp' := hp ++ [Blk.dead]) (List.perm_append_comm (l₁ := [Blk.dead])) ?_
  refine ac_wk (wk_drop hp.length) ?_
  rw [show (hp ++ [Blk.dead]).take hp.length = hp from List.take_left]
  exact h
theorem perm_pull {α : Type} {a b c d e x : α} {l l' : List α} (h : l.Perm (x :: l')) : (a :: b :: c :: d :: e :: l).Perm ([a, b, c, x] ++ (d :: e :: l')) := by
  refine .cons _ (.cons _ (.cons _ ?_))
  refine List.Perm.trans (.cons d (.cons e h)) ?_
  exact List.Perm.trans (.cons d (.swap x e l')) (.swap x d (e :: l'))
theorem perm_mid {α : Type} {a b c d e : α} (l r : List α) : (a :: b :: c :: d :: e :: (l ++ r)).Perm ((a :: b :: c :: l) ++ (d :: e :: r)) := by
  refine .cons _ (.cons _ (.cons _ ?_))
  have : ([d, e] ++ l ++ r).Perm (l ++ [d, e] ++ r) := List.Perm.append_right r List.perm_append_comm
  simpa using this
theorem erase_perm {α : Type} : ∀ {l : List α} {i : Nat} (h : i < l.length), l.Perm (l[i] :: l.eraseIdx i)
  | [], _, h => absurd h (Nat.not_lt_zero _)
  | _ :: _, 0, _ => List.Perm.refl _
  | a :: l, i + 1, h => by
    simp only [List.getElem_cons_succ, List.eraseIdx_cons_succ]
    exact ((erase_perm (l := l) (i := i) (by simpa using h)).cons a).trans (List.Perm.swap _ _ _)
theorem fam_out {α : Type} {f : α → Blk} {l : List α} {i : Nat} {a : α} (h : l[i]? = some a) : (l.map f).Perm (f a :: (l.eraseIdx i).map f) := by
  obtain ⟨h1, rfl⟩ := List.getElem?_eq_some_iff.1 h
  exact (erase_perm h1).map f
theorem fam_in {α : Type} {f : α → Blk} {l : List α} {i : Nat} (h : i < l.length) (a : α) : (f a :: (l.eraseIdx i).map f).Perm ((l.set i a).map f) := by
  have h1 : (l.set i a)[i]? = some a := by simp [h]
  have := fam_out (f := f) h1
  rw [List.eraseIdx_set_eq] at this
  exact this.symm
theorem fam_at {α : Type} (f : α → Blk) {l : List α} {i : Nat} {a : α} (h : l[i]? = some a) : (l.map f)[i]? = some (f a) := by rw [List.getElem?_map, h]; rfl
end Go.Proofs.Ytdogdjcjmhogmaa
namespace Go.Proofs.Ytdogdjcjmhogmaa
open Go.RowKit
def intTs (i : Int) : List T := [.lit (.int .i64 i)]
def intRow (l : List Int) : T := .row l.length 1 (l.flatMap intTs)
theorem int_at {l : List Int} {k : Nat} {i : Int} (h : l[k]? = some i) : (l.flatMap intTs)[k * 1]? = some (.lit (.int .i64 i)) := flat_get intTs 1 (fun _ => rfl) h (j := 0) (by omega)
end Go.Proofs.Ytdogdjcjmhogmaa
namespace Go.Proofs.Ytdogdjcjmhogmaa
set_option maxRecDepth 100000 in
def tab : Tab :=
  (.node 119 ⟨1, 8, [.nilFunc], .other⟩ (.node 61 ⟨1, 8, [.nilFunc], .other⟩ (.node 28 ⟨1, 8, [.nilFunc], .other⟩ (.node 14 ⟨2, 24, [.string ⟨#[]⟩, .int .u64 0], (.struct [(0, 1), (1, 1)])⟩ (.node 7 ⟨4, 24, [.int .i64 0, .int .i64 0, .bool false, .int .u8 0], (.struct [(0, 1), (1, 1), (2, 1), (3, 1)])⟩ (.node 4 ⟨1, 1, [.bool false], .bool⟩ (.node 2 ⟨1, 8, [.int .i64 0], (.int .i64)⟩ (.node 1 ⟨1, 8, [.nilFunc], .other⟩ .nil .nil) (.node 3 ⟨1, 8, [.int .i64 0], (.int .i64)⟩ .nil .nil)) (.node 6 ⟨1, 1, [.int .u8 0], (.int .u8)⟩ (.node 5 ⟨1, 1, [.int .u8 0], (.int .u8)⟩ .nil .nil) .nil)) (.node 11 ⟨1, 16, [.string ⟨#[]⟩], .string⟩ (.node 9 ⟨1, 16, [.string ⟨#[]⟩], .string⟩ (.node 8 ⟨4, 24, [.int .i64 0, .int .i64 0, .bool false, .int .u8 0], (.struct [(0, 1), (1, 1), (2, 1), (3, 1)])⟩ .nil .nil) (.node 10 ⟨1, 16, [.string ⟨#[]⟩], .string⟩ .nil .nil)) (.node 13 ⟨2, 24, [.string ⟨#[]⟩, .int .u64 0], (.struct [(0, 1), (1, 1)])⟩ (.node 12 ⟨1, 8, [.int .u64 0], (.int .u64)⟩ .nil .nil) .nil))) (.node 21 ⟨1, 4, [.int .i32 0], (.int .i32)⟩ (.node 18 ⟨1, 8, [.pointer none], (.struct [(0, 1)])⟩ (.node 16 ⟨1, 8, [.pointer none], .other⟩ (.node 15 ⟨1, 8, [.pointer none], .other⟩ .nil .nil) (.node 17 ⟨1, 8, [.pointer none], .other⟩ .nil .nil)) (.node 20 ⟨1, 16, [.nilIface], .other⟩ (.node 19 ⟨1, 8, [.pointer none], (.struct [(0, 1)])⟩ .nil .nil) .nil)) (.node 24 ⟨1, 8, [.pointer none], .other⟩ (.node 23 ⟨1, 24, [.slice none 0 0], (.slice 34)⟩ (.node 22 ⟨1, 24, [.slice none 0 0], (.slice 3)⟩ .nil .nil) .nil) (.node 27 ⟨1, 8, [.nilFunc], .other⟩ (.node 25 ⟨1, 8, [.int .i64 0], (.int .i64)⟩ .nil .nil) .nil)))) (.node 43 ⟨1, 8, [.pointer none], .other⟩ (.node 36 ⟨1, 8, [.nilFunc], .other⟩ (.node 32 ⟨1, 24, [.slice none 0 0], (.slice 5)⟩ (.node 30 ⟨1, 8, [.map none], .other⟩ (.node 29 ⟨1, 8, [.nilFunc], .other⟩ .nil .nil) (.node 31 ⟨1, 8, [.map none], .other⟩ .nil .nil)) (.node 34 ⟨4, 64, [.int .i64 0, .int .i64 0, .slice none 0 0, .slice none 0 0], (.struct [(0, 1), (1, 1), (2, 1), (3, 1)])⟩ (.node 33 ⟨4, 64, [.int .i64 0, .int .i64 0, .slice none 0 0, .slice none 0 0], (.struct [(0, 1), (1, 1), (2, 1), (3, 1)])⟩ .nil .nil) .nil)) (.node 40 ⟨1, 8, [.nilFunc], .other⟩ (.node 38 ⟨1, 24, [.slice none 0 0], (.slice 22)⟩ (.node 37 ⟨1, 8, [.nilFunc], .other⟩ .nil .nil) .nil) (.node 42 ⟨1, 8, [.nilFunc], .other⟩ (.node 41 ⟨1, 8, [.nilFunc], .other⟩ .nil .nil) .nil))) (.node 53 ⟨1, 8, [.nilFunc], .other⟩ (.node 48 ⟨1, 8, [.nilFunc], .other⟩ (.node 45 ⟨1, 8, [.map none], .other⟩ (.node 44 ⟨1, 8, [.nilFunc], .other⟩ .nil .nil) (.node 46 ⟨1, 8, [.map none], .other⟩ .nil .nil)) (.node 52 ⟨1, 8, [.nilFunc], .other⟩ (.node 50 ⟨1, 8, [.nilFunc], .other⟩ .nil .nil) .nil)) (.node 57 ⟨1, 8, [.pointer none], .other⟩ (.node 56 ⟨1, 8, [.nilFunc], .other⟩ (.node 54 ⟨1, 8, [.nilFunc], .other⟩ .nil .nil) .nil) (.node 59 ⟨2, 24, [.string ⟨#[]⟩, .int .i64 0], (.struct [(0, 1), (1, 1)])⟩ (.node 58 ⟨2, 24, [.string ⟨#[]⟩, .int .i64 0], (.struct [(0, 1), (1, 1)])⟩ .nil .nil) .nil))))) (.node 91 ⟨1, 8, [.nilFunc], .other⟩ (.node 76 ⟨1, 8, [.nilFunc], .other⟩ (.node 69 ⟨5, 40, [.int .i64 0, .int .i64 0, .int .i64 0, .int .i64 0, .int .i64 0], (.struct [(0, 1), (1, 1), (2, 1), (3, 1), (4, 1)])⟩ (.node 65 ⟨4, 64, [.slice none 0 0, .slice none 0 0, .int .i64 0, .int .i64 0], (.struct [(0, 1), (1, 1), (2, 1), (3, 1)])⟩ (.node 63 ⟨1, 24, [.slice none 0 0], (.slice 70)⟩ (.node 62 ⟨1, 8, [.nilFunc], .other⟩ .nil .nil) (.node 64 ⟨1, 24, [.slice none 0 0], (.slice 71)⟩ .nil .nil)) (.node 68 ⟨1, 8, [.nilFunc], .other⟩ (.node 66 ⟨4, 64, [.slice none 0 0, .slice none 0 0, .int .i64 0, .int .i64 0], (.struct [(0, 1), (1, 1), (2, 1), (3, 1)])⟩ .nil .nil) .nil)) (.node 73 ⟨2, 16, [.int .i64 0, .int .i64 0], (.struct [(0, 1), (1, 1)])⟩ (.node 71 ⟨1, 24, [.slice none 0 0], (.slice 73)⟩ (.node 70 ⟨5, 40, [.int .i64 0, .int .i64 0, .int .i64 0, .int .i64 0, .int .i64 0], (.struct [(0, 1), (1, 1), (2, 1), (3, 1), (4, 1)])⟩ .nil .nil) (.node 72 ⟨2, 16, [.int .i64 0, .int .i64 0], (.struct [(0, 1), (1, 1)])⟩ .nil .nil)) (.node 75 ⟨1, 8, [.nilFunc], .other⟩ (.node 74 ⟨1, 8, [.nilFunc], .other⟩ .nil .nil) .nil))) (.node 84 ⟨4, 32, [.int .i64 0, .int .i64 0, .int .i64 0, .int .i64 0], (.struct [(0, 1), (1, 1), (2, 1), (3, 1)])⟩ (.node 80 ⟨5, 88, [.bool false, .slice none 0 0, .slice none 0 0, .slice none 0 0, .int .i64 0], (.struct [(0, 1), (1, 1), (2, 1), (3, 1), (4, 1)])⟩ (.node 78 ⟨1, 24, [.slice none 0 0], (.slice 38)⟩ (.node 77 ⟨1, 24, [.slice none 0 0], (.slice 84)⟩ .nil .nil) (.node 79 ⟨5, 88, [.bool false, .slice none 0 0, .slice none 0 0, .slice none 0 0, .int .i64 0], (.struct [(0, 1), (1, 1), (2, 1), (3, 1), (4, 1)])⟩ .nil .nil)) (.node 83 ⟨4, 32, [.int .i64 0, .int .i64 0, .int .i64 0, .int .i64 0], (.struct [(0, 1), (1, 1), (2, 1), (3, 1)])⟩ (.node 82 ⟨1, 8, [.nilFunc], .other⟩ .nil .nil) .nil)) (.node 87 ⟨1, 8, [.nilFunc], .other⟩ (.node 86 ⟨1, 8, [.nilFunc], .other⟩ (.node 85 ⟨1, 8, [.nilFunc], .other⟩ .nil .nil) .nil) (.node 89 ⟨1, 24, [.slice none 0 0], (.slice 93)⟩ (.node 88 ⟨1, 8, [.nilFunc], .other⟩ .nil .nil) .nil)))) (.node 104 ⟨2, 16, [.map none, .map none], (.struct [(0, 1), (1, 1)])⟩ (.node 98 ⟨5, 88, [.slice none 0 0, .bool false, .int .i64 0, .slice none 0 0, .slice none 0 0], (.struct [(0, 1), (1, 1), (2, 1), (3, 1), (4, 1)])⟩ (.node 95 ⟨1, 8, [.nilFunc], .other⟩ (.node 93 ⟨3, 32, [.int .i64 0, .int .i64 0, .string ⟨#[]⟩], (.struct [(0, 1), (1, 1), (2, 1)])⟩ (.node 92 ⟨3, 32, [.int .i64 0, .int .i64 0, .string ⟨#[]⟩], (.struct [(0, 1), (1, 1), (2, 1)])⟩ .nil .nil) (.node 94 ⟨1, 8, [.nilFunc], .other⟩ .nil .nil)) (.node 97 ⟨1, 24, [.slice none 0 0], (.slice 4)⟩ (.node 96 ⟨1, 8, [.nilFunc], .other⟩ .nil .nil) .nil)) (.node 101 ⟨1, 8, [.nilFunc], .other⟩ (.node 100 ⟨1, 8, [.nilFunc], .other⟩ (.node 99 ⟨5, 88, [.slice none 0 0, .bool false, .int .i64 0, .slice none 0 0, .slice none 0 0], (.struct [(0, 1), (1, 1), (2, 1), (3, 1), (4, 1)])⟩ .nil .nil) .nil) (.node 103 ⟨1, 8, [.map none], .other⟩ (.node 102 ⟨1, 8, [.map none], .other⟩ .nil .nil) .nil))) (.node 113 ⟨1, 24, [.slice none 0 0], (.slice 9)⟩ (.node 109 ⟨1, 8, [.nilFunc], .other⟩ (.node 107 ⟨2, 24, [.string ⟨#[]⟩, .int .i64 0], (.struct [(0, 1), (1, 1)])⟩ (.node 105 ⟨2, 16, [.map none, .map none], (.struct [(0, 1), (1, 1)])⟩ .nil .nil) (.node 108 ⟨2, 24, [.string ⟨#[]⟩, .int .i64 0], (.struct [(0, 1), (1, 1)])⟩ .nil .nil)) (.node 112 ⟨1, 8, [.nilFunc], .other⟩ (.node 111 ⟨1, 24, [.slice none 0 0], (.slice 32)⟩ .nil .nil) .nil)) (.node 116 ⟨1, 8, [.nilFunc], .other⟩ (.node 115 ⟨1, 8, [.map none], .other⟩ (.node 114 ⟨1, 8, [.nilFunc], .other⟩ .nil .nil) .nil) (.node 118 ⟨1, 8, [.pointer none], .other⟩ (.node 117 ⟨1, 8, [.nilFunc], .other⟩ .nil .nil) .nil)))))) (.node 173 ⟨1, 24, [.slice none 0 0], (.slice 201)⟩ (.node 146 ⟨1, 24, [.slice none 0 0], (.slice 145)⟩ (.node 133 ⟨2, 16, [.int .i64 0, .map none], (.struct [(0, 1), (1, 1)])⟩ (.node 126 ⟨8, 112, [.int .i64 0, .slice none 0 0, .map none, .map none, .map none, .map none, .slice none 0 0, .slice none 0 0], (.struct [(0, 1), (1, 1), (2, 1), (3, 1), (4, 1), (5, 1), (6, 1), (7, 1)])⟩ (.node 123 ⟨1, 8, [.map none], .other⟩ (.node 121 ⟨1, 8, [.map none], .other⟩ (.node 120 ⟨1, 8, [.nilFunc], .other⟩ .nil .nil) (.node 122 ⟨1, 8, [.map none], .other⟩ .nil .nil)) (.node 125 ⟨1, 24, [.slice none 0 0], (.slice 129)⟩ (.node 124 ⟨1, 8, [.map none], .other⟩ .nil .nil) .nil)) (.node 130 ⟨2, 16, [.int .i64 0, .int .i64 0], (.struct [(0, 1), (1, 1)])⟩ (.node 128 ⟨2, 16, [.int .i64 0, .int .i64 0], (.array 2 3)⟩ (.node 127 ⟨8, 112, [.int .i64 0, .slice none 0 0, .map none, .map none, .map none, .map none, .slice none 0 0, .slice none 0 0], (.struct [(0, 1), (1, 1), (2, 1), (3, 1), (4, 1), (5, 1), (6, 1), (7, 1)])⟩ .nil .nil) (.node 129 ⟨1, 24, [.slice none 0 0], (.slice 184)⟩ .nil .nil)) (.node 132 ⟨1, 8, [.pointer none], .other⟩ (.node 131 ⟨2, 16, [.int .i64 0, .int .i64 0], (.struct [(0, 1), (1, 1)])⟩ .nil .nil) .nil))) (.node 140 ⟨1, 8, [.map none], .other⟩ (.node 137 ⟨1, 24, [.slice none 0 0], (.slice 141)⟩ (.node 135 ⟨1, 24, [.slice none 0 0], (.slice 115)⟩ (.node 134 ⟨2, 16, [.int .i64 0, .map none], (.struct [(0, 1), (1, 1)])⟩ .nil .nil) (.node 136 ⟨1, 24, [.slice none 0 0], (.slice 138)⟩ .nil .nil)) (.node 139 ⟨1, 24, [.slice none 0 0], (.slice 146)⟩ (.node 138 ⟨1, 8, [.map none], .other⟩ .nil .nil) .nil)) (.node 143 ⟨2, 16, [.int .i64 0, .int .i64 0], (.struct [(0, 1), (1, 1)])⟩ (.node 142 ⟨2, 16, [.int .i64 0, .int .i64 0], (.struct [(0, 1), (1, 1)])⟩ (.node 141 ⟨1, 24, [.slice none 0 0], (.slice 143)⟩ .nil .nil) .nil) (.node 145 ⟨7, 56, [.int .i64 0, .int .i64 0, .int .i64 0, .int .i64 0, .int .i64 0, .int .i64 0, .int .i64 0], (.struct [(0, 1), (1, 1), (2, 1), (3, 1), (4, 1), (5, 1), (6, 1)])⟩ (.node 144 ⟨7, 56, [.int .i64 0, .int .i64 0, .int .i64 0, .int .i64 0, .int .i64 0, .int .i64 0, .int .i64 0], (.struct [(0, 1), (1, 1), (2, 1), (3, 1), (4, 1), (5, 1), (6, 1)])⟩ .nil .nil) .nil)))) (.node 159 ⟨1, 8, [.nilFunc], .other⟩ (.node 153 ⟨1, 8, [.nilFunc], .other⟩ (.node 150 ⟨1, 8, [.pointer none], .other⟩ (.node 148 ⟨1, 8, [.nilFunc], .other⟩ (.node 147 ⟨1, 8, [.nilFunc], .other⟩ .nil .nil) (.node 149 ⟨1, 8, [.nilFunc], .other⟩ .nil .nil)) (.node 152 ⟨1, 8, [.nilFunc], .other⟩ (.node 151 ⟨1, 8, [.nilFunc], .other⟩ .nil .nil) .nil)) (.node 156 ⟨5, 56, [.slice none 0 0, .int .i64 0, .int .i64 0, .bool false, .int .i64 0], (.struct [(0, 1), (1, 1), (2, 1), (3, 1), (4, 1)])⟩ (.node 155 ⟨1, 8, [.pointer none], .other⟩ (.node 154 ⟨1, 8, [.map none], .other⟩ .nil .nil) .nil) (.node 158 ⟨1, 8, [.map none], .other⟩ (.node 157 ⟨5, 56, [.slice none 0 0, .int .i64 0, .int .i64 0, .bool false, .int .i64 0], (.struct [(0, 1), (1, 1), (2, 1), (3, 1), (4, 1)])⟩ .nil .nil) .nil))) (.node 166 ⟨1, 16, [.nilIface], .other⟩ (.node 163 ⟨5, 32, [.int .i64 0, .int .i64 0, .bool false, .bool false, .int .i64 0], (.struct [(0, 1), (1, 1), (2, 1), (3, 1), (4, 1)])⟩ (.node 161 ⟨2, 32, [.pointer none, .slice none 0 0], (.struct [(0, 1), (1, 1)])⟩ (.node 160 ⟨1, 8, [.pointer none], .other⟩ .nil .nil) (.node 162 ⟨2, 32, [.pointer none, .slice none 0 0], (.struct [(0, 1), (1, 1)])⟩ .nil .nil)) (.node 165 ⟨1, 24, [.slice none 0 0], (.slice 164)⟩ (.node 164 ⟨5, 32, [.int .i64 0, .int .i64 0, .bool false, .bool false, .int .i64 0], (.struct [(0, 1), (1, 1), (2, 1), (3, 1), (4, 1)])⟩ .nil .nil) .nil)) (.node 170 ⟨1, 8, [.nilFunc], .other⟩ (.node 169 ⟨1, 8, [.nilFunc], .other⟩ (.node 167 ⟨1, 16, [.nilIface], .other⟩ .nil .nil) .nil) (.node 172 ⟨1, 8, [.nilFunc], .other⟩ (.node 171 ⟨1, 8, [.nilFunc], .other⟩ .nil .nil) .nil))))) (.node 201 ⟨1, 8, [.pointer none], .other⟩ (.node 187 ⟨1, 8, [.map none], .other⟩ (.node 181 ⟨2, 16, [.int .i64 0, .int .i64 0], (.struct [(0, 1), (1, 1)])⟩ (.node 178 ⟨1, 8, [.nilFunc], .other⟩ (.node 176 ⟨1, 8, [.nilFunc], .other⟩ (.node 175 ⟨1, 8, [.nilFunc], .other⟩ .nil .nil) (.node 177 ⟨1, 8, [.nilFunc], .other⟩ .nil .nil)) (.node 180 ⟨1, 8, [.nilFunc], .other⟩ (.node 179 ⟨1, 8, [.nilFunc], .other⟩ .nil .nil) .nil)) (.node 184 ⟨7, 56, [.int .i64 0, .int .i64 0, .int .i64 0, .int .i64 0, .int .i64 0, .int .i64 0, .int .i64 0], (.struct [(0, 1), (1, 1), (2, 1), (3, 1), (4, 1), (5, 2)])⟩ (.node 183 ⟨7, 56, [.int .i64 0, .int .i64 0, .int .i64 0, .int .i64 0, .int .i64 0, .int .i64 0, .int .i64 0], (.struct [(0, 1), (1, 1), (2, 1), (3, 1), (4, 1), (5, 2)])⟩ (.node 182 ⟨2, 16, [.int .i64 0, .int .i64 0], (.struct [(0, 1), (1, 1)])⟩ .nil .nil) .nil) (.node 186 ⟨1, 8, [.nilFunc], .other⟩ (.node 185 ⟨1, 8, [.nilFunc], .other⟩ .nil .nil) .nil))) (.node 194 ⟨3, 24, [.int .i64 0, .int .i64 0, .int .i64 0], (.struct [(0, 1), (1, 1), (2, 1)])⟩ (.node 191 ⟨1, 8, [.nilFunc], .other⟩ (.node 189 ⟨3, 56, [.slice none 0 0, .slice none 0 0, .map none], (.struct [(0, 1), (1, 1), (2, 1)])⟩ (.node 188 ⟨1, 24, [.slice none 0 0], (.slice 24)⟩ .nil .nil) (.node 190 ⟨3, 56, [.slice none 0 0, .slice none 0 0, .map none], (.struct [(0, 1), (1, 1), (2, 1)])⟩ .nil .nil)) (.node 193 ⟨3, 24, [.int .i64 0, .int .i64 0, .int .i64 0], (.struct [(0, 1), (1, 1), (2, 1)])⟩ (.node 192 ⟨1, 24, [.slice none 0 0], (.slice 194)⟩ .nil .nil) .nil)) (.node 198 ⟨1, 8, [.nilFunc], .other⟩ (.node 196 ⟨1, 8, [.int .u64 0], (.int .u64)⟩ (.node 195 ⟨1, 8, [.nilFunc], .other⟩ .nil .nil) .nil) (.node 200 ⟨1, 8, [.nilFunc], .other⟩ (.node 199 ⟨1, 8, [.pointer none], .other⟩ .nil .nil) .nil)))) (.node 217 ⟨1, 8, [.nilFunc], .other⟩ (.node 210 ⟨1, 8, [.nilFunc], .other⟩ (.node 205 ⟨1, 8, [.nilFunc], .other⟩ (.node 203 ⟨5, 64, [.int .i64 0, .int .i64 0, .string ⟨#[]⟩, .slice none 0 0, .int .i64 0], (.struct [(0, 3), (3, 1), (4, 1)])⟩ (.node 202 ⟨5, 64, [.int .i64 0, .int .i64 0, .string ⟨#[]⟩, .slice none 0 0, .int .i64 0], (.struct [(0, 3), (3, 1), (4, 1)])⟩ .nil .nil) (.node 204 ⟨1, 8, [.nilFunc], .other⟩ .nil .nil)) (.node 208 ⟨1, 4, [.int .u32 0], (.int .u32)⟩ (.node 207 ⟨1, 8, [.nilFunc], .other⟩ .nil .nil) .nil)) (.node 214 ⟨1, 8, [.nilFunc], .other⟩ (.node 213 ⟨1, 8, [.nilFunc], .other⟩ (.node 211 ⟨1, 8, [.int .u64 0], (.int .u64)⟩ .nil .nil) .nil) (.node 216 ⟨1, 8, [.nilFunc], .other⟩ (.node 215 ⟨1, 8, [.nilFunc], .other⟩ .nil .nil) .nil))) (.node 224 ⟨1, 1, [.int .u8 0], (.int .u8)⟩ (.node 221 ⟨0, 0, [], (.struct [(0, 0)])⟩ (.node 219 ⟨4, 40, [.pointer none, .pointer none, .pointer none, .string ⟨#[]⟩], (.struct [(0, 1), (1, 1), (2, 1), (3, 1)])⟩ (.node 218 ⟨4, 40, [.pointer none, .pointer none, .pointer none, .string ⟨#[]⟩], (.struct [(0, 1), (1, 1), (2, 1), (3, 1)])⟩ .nil .nil) (.node 220 ⟨0, 0, [], (.array 0 16)⟩ .nil .nil)) (.node 223 ⟨1, 1, [.int .u8 0], (.int .u8)⟩ (.node 222 ⟨0, 0, [], (.struct [(0, 0)])⟩ .nil .nil) .nil)) (.node 227 ⟨1, 4, [.int .i32 0], (.int .i32)⟩ (.node 226 ⟨1, 4, [.int .i32 0], (.int .i32)⟩ (.node 225 ⟨1, 8, [.nilFunc], .other⟩ .nil .nil) .nil) (.node 229 ⟨11, 48, [.int .u64 0, .int .u64 0, .int .u32 0, .int .u8 0, .int .u8 0, .int .u8 0, .int .u8 0, .nilFunc, .pointer none, .int .i32 0, .int .i32 0], (.struct [(0, 1), (1, 1), (2, 1), (3, 1), (4, 1), (5, 1), (6, 1), (7, 1), (8, 1), (9, 1), (10, 1)])⟩ (.node 228 ⟨11, 48, [.int .u64 0, .int .u64 0, .int .u32 0, .int .u8 0, .int .u8 0, .int .u8 0, .int .u8 0, .nilFunc, .pointer none, .int .i32 0, .int .i32 0], (.struct [(0, 1), (1, 1), (2, 1), (3, 1), (4, 1), (5, 1), (6, 1), (7, 1), (8, 1), (9, 1), (10, 1)])⟩ .nil .nil) .nil)))))))
set_option maxRecDepth 100000 in
theorem tabOkB : tab.okB Try.prog = true := by kernel_rfl
theorem tok : TabOk Try.prog tab := tab_ok tabOkB
end Go.Proofs.Ytdogdjcjmhogmaa
namespace Go.Proofs.Ytdogdjcjmhogmaa
open Go.RowKit
theorem nth {α : Type} {l : List α} {k : Nat} (h : k < l.length) : ∃ a, l[k]? = some a := ⟨_, List.getElem?_eq_getElem h⟩
def boTs (b : Bool) : List T := [.lit (.bool b)]
def boRow (l : List Bool) : T := .row l.length 1 (l.flatMap boTs)
theorem bo_at {l : List Bool} {k : Nat} {b : Bool} (h : l[k]? = some b) : (l.flatMap boTs)[k * 1]? = some (.lit (.bool b)) := flat_get boTs 1 (fun _ => rfl) h (j := 0) (by omega)
theorem flat_ints : ∀ l : List Int, flatTs (l.flatMap intTs) = true
  | [] => rfl
  | a :: l => by
    rw [List.flatMap_cons]
    show flatTs (.lit (.int .i64 a) :: l.flatMap intTs) = true
    rw [flatTs, flat_ints l]; rfl
set_option maxRecDepth 100000 in
set_option maxHeartbeats 1000000 in
theorem idxInt_af (l : List Int) (s : Int) : AF Try.prog 44 [intRow l, .lit (.int .i64 s)] (· = .lit (.int .i64 (idxI (fun a => decide (s = a)) l))) := by
  refine af_enter tok Try.func44 Try.ntmps44 Try.results44 rfl (by kernel_rfl) rfl rfl fun F hX => ?_
  repeat (first | refine gG ?_ | refine zN1 (fun hlen => ?_) | refine zN2 (fun hlen => ?_))
  refine x_loop [4, 5, 8, 9, 10, 11, 12, 13, 14, 15, 16, 17, 18] (fun k : Nat => [(8, .c (.lit (.int .i64 (k : Nat))))]) (fun _ => []) (fun k => k ≤ l.length ∧ idxAt (fun a => decide (s = a)) l k) (fun k => l.length - k) 0 ⟨Nat.zero_le _, idxAt_zero _ l⟩ ⟨rfl, trivial⟩ rfl fun k hk => ?_
  repeat (first | refine gG ?_ | refine zN1 (fun hlen => ?_) | refine zN2 (fun hlen => ?_))
  refine x_cond rfl (fun h => ?_) (fun h => ?_)
  · have hk' : k < l.length := by simpa using h
    obtain ⟨a, ha⟩ := nth hk'
    have hat := int_at ha
    have hno := fun hp => idxAt_no hk.2 ha hp
    have hyes := fun hp => idxAt_yes hk.2 ha hp
    clear h ha hk
    cases d1 : decide (s = a)
    · replace hno := hno d1
      repeat (first | refine gG ?_ | refine zN1 (fun hlen => ?_) | refine zN2 (fun hlen => ?_))
      refine zIx k hk' ?_
      repeat (first | refine gG ?_ | refine zN1 (fun hlen => ?_) | refine zN2 (fun hlen => ?_))
      refine zEl1 hat ?_
      repeat (first | refine gG ?_ | refine zN1 (fun hlen => ?_) | refine zN2 (fun hlen => ?_))
      exact ⟨k + 1, ⟨hk', hno⟩, by omega, x_wkd 0 ⟨rfl, trivial⟩ rfl (by repeat (first | exact ag_refl | refine ag_upd rfl ?_ | refine ag_at rfl rfl ?_))⟩
    · replace hyes := hyes d1
      repeat (first | refine gG ?_ | refine zN1 (fun hlen => ?_) | refine zN2 (fun hlen => ?_))
      refine zIx k hk' ?_
      repeat (first | refine gG ?_ | refine zN1 (fun hlen => ?_) | refine zN2 (fun hlen => ?_))
      refine zEl1 hat ?_
      repeat (first | refine gG ?_ | refine zN1 (fun hlen => ?_) | refine zN2 (fun hlen => ?_))
      first | refine zR ?_ | refine zQ ?_
      rw [hyes]; rfl
  · have hk' : k = l.length := by have : ¬ k < l.length := by simpa using h
                                  omega
    subst hk'
    repeat (first | refine gG ?_ | refine zN1 (fun hlen => ?_) | refine zN2 (fun hlen => ?_))
    first | refine zR ?_ | refine zQ ?_
    rw [idxAt_end hk.2]; rfl
set_option maxRecDepth 100000 in
set_option maxHeartbeats 1000000 in
theorem hasInt_af (l : List Int) (s : Int) : AF Try.prog 10 [intRow l, .lit (.int .i64 s)] (· = .lit (.bool (l.any fun a => decide (s = a)))) := by
  have hc := idxInt_af l s
  refine af_enter tok Try.func10 Try.ntmps10 Try.results10 rfl (by kernel_rfl) rfl rfl fun F hX => ?_
  repeat (first | refine gG ?_)
  refine zCall (hc) ?_
  rintro _ rfl
  repeat (first | refine gG ?_)
  first | refine zR ?_ | refine zQ ?_
  rw [← idxI_any]; rfl
set_option maxRecDepth 100000 in
set_option maxHeartbeats 1000000 in
theorem idxFalse_af (l : List Bool) : AF Try.prog 70 [boRow l, .lit (.bool false)] (· = .lit (.int .i64 (idxI (fun a => !a) l))) := by
  refine af_enter tok Try.func70 Try.ntmps70 Try.results70 rfl (by kernel_rfl) rfl rfl fun F hX => ?_
  repeat (first | refine gG ?_ | refine zN1 (fun hlen => ?_) | refine zN2 (fun hlen => ?_))
  refine x_loop [4, 5, 8, 9, 10, 11, 12, 13, 14, 15, 16, 17, 18] (fun k : Nat => [(8, .c (.lit (.int .i64 (k : Nat))))]) (fun _ => []) (fun k => k ≤ l.length ∧ idxAt (fun a => !a) l k) (fun k => l.length - k) 0 ⟨Nat.zero_le _, idxAt_zero _ l⟩ ⟨rfl, trivial⟩ rfl fun k hk => ?_
  repeat (first | refine gG ?_ | refine zN1 (fun hlen => ?_) | refine zN2 (fun hlen => ?_))
  refine x_cond rfl (fun h => ?_) (fun h => ?_)
  · have hk' : k < l.length := by simpa using h
    obtain ⟨a, ha⟩ := nth hk'
    have hat := bo_at ha
    have hno := fun hp => idxAt_no hk.2 ha hp
    have hyes := fun hp => idxAt_yes hk.2 ha hp
    clear h ha hk
    cases a
    · replace hyes := hyes rfl
      repeat (first | refine gG ?_ | refine zN1 (fun hlen => ?_) | refine zN2 (fun hlen => ?_))
      refine zIx k hk' ?_
      repeat (first | refine gG ?_ | refine zN1 (fun hlen => ?_) | refine zN2 (fun hlen => ?_))
      refine zEl1 hat ?_
      repeat (first | refine gG ?_ | refine zN1 (fun hlen => ?_) | refine zN2 (fun hlen => ?_))
      refine lo_eqbr (r := true) rfl ?_
      repeat (first | refine gG ?_ | refine zN1 (fun hlen => ?_) | refine zN2 (fun hlen => ?_))
      first | refine zR ?_ | refine zQ ?_
      rw [hyes]; rfl
    · replace hno := hno rfl
      repeat (first | refine gG ?_ | refine zN1 (fun hlen => ?_) | refine zN2 (fun hlen => ?_))
      refine zIx k hk' ?_
      repeat (first | refine gG ?_ | refine zN1 (fun hlen => ?_) | refine zN2 (fun hlen => ?_))
      refine zEl1 hat ?_
      repeat (first | refine gG ?_ | refine zN1 (fun hlen => ?_) | refine zN2 (fun hlen => ?_))
      refine lo_eqbr (r := false) rfl ?_
      repeat (first | refine gG ?_ | refine zN1 (fun hlen => ?_) | refine zN2 (fun hlen => ?_))
      exact ⟨k + 1, ⟨hk', hno⟩, by omega, x_wkd 0 ⟨rfl, trivial⟩ rfl (by repeat (first | exact ag_refl | refine ag_upd rfl ?_ | refine ag_at rfl rfl ?_))⟩
  · have hk' : k = l.length := by have : ¬ k < l.length := by simpa using h
                                  omega
    subst hk'
    repeat (first | refine gG ?_ | refine zN1 (fun hlen => ?_) | refine zN2 (fun hlen => ?_))
    first | refine zR ?_ | refine zQ ?_
    rw [idxAt_end hk.2]; rfl
set_option maxRecDepth 100000 in
set_option maxHeartbeats 1000000 in
theorem hasFalse_af (l : List Bool) : AF Try.prog 45 [boRow l, .lit (.bool false)] (· = .lit (.bool (l.any fun a => !a))) := by
  have hc := idxFalse_af l
  refine af_enter tok Try.func45 Try.ntmps45 Try.results45 rfl (by kernel_rfl) rfl rfl fun F hX => ?_
  repeat (first | refine gG ?_)
  refine zCall (hc) ?_
  rintro _ rfl
  repeat (first | refine gG ?_)
  first | refine zR ?_ | refine zQ ?_
  rw [← idxI_any]; rfl
def Cloned (e : TypeId) (n sz : Nat) (ts : List T) (r : AV) (hs : List Blk) : Prop := ∃ v, r = .own 0 v ∧ hs = [.row v e sz n ts]
set_option maxRecDepth 100000 in
set_option maxHeartbeats 1000000 in
theorem cloneInt_ag (l : List Int) (hl : l.length ≤ 1048576) : AG Try.prog 43 [.c (intRow l)] [] (Cloned 3 l.length 1 (l.flatMap intTs)) := by
  refine ag_enter (1) tok Try.func43 Try.ntmps43 Try.results43 rfl (by kernel_rfl) rfl fun F => ?_
  repeat (first | refine gG ?_ | refine zAp (fun _ => ?_))
  refine zNs (fun b hb => ?_)
  cases b
  · repeat (first | refine gX ?_ | refine zAp (fun _ => ?_))
    refine zBo (fun _ => ?_)
    repeat (first | refine gG ?_ | refine zAp (fun _ => ?_))
    refine zG ?_
    exact ⟨_, rfl, by simp only [List.nil_append, Nat.zero_add]⟩
  · have h0 := hb rfl
    have : l = [] := List.eq_nil_of_length_eq_zero h0
    subst this
    repeat (first | refine gO ?_ | refine ac_seq ?_ | refine ac_block ?_ | refine ac_region ?_ | refine ac_skip ?_ | refine zT ?_)
    refine x_own 2 3 1 rfl rfl rfl rfl rfl ?_
    repeat (first | refine gG ?_ | refine zAp (fun _ => ?_))
    refine zG ?_
    exact ⟨_, rfl, rfl⟩
theorem eqL_len {l r : List Int} (h : l.length ≠ r.length) : decide (l = r) = false := decide_eq_false fun e => h (by rw [e])
def eqAt (l r : List Int) (k : Nat) : Prop := l.take k = r.take k
set_option maxRecDepth 100000 in
set_option maxHeartbeats 1000000 in
theorem eqInt_af (l r : List Int) : AF Try.prog 14 [intRow l, intRow r] (· = .lit (.bool (decide (l = r)))) := by
  cases q1 : decide (((l.length : Nat) : Int) = ((r.length : Nat) : Int))
  · have q2 : (!decide (((l.length : Nat) : Int) = ((r.length : Nat) : Int))) = true := by rw [q1]; rfl
    have hne : l.length ≠ r.length := by have := of_decide_eq_false q1; omega
    have hf := eqL_len hne
    generalize decide (l = r) = z at *
    subst hf
    refine af_enter tok Try.func14 Try.ntmps14 Try.results14 rfl (by kernel_rfl) rfl rfl fun F hX => ?_
    repeat (first | refine gG ?_ | refine zN1 (fun hlen => ?_) | refine zN2 (fun hlen => ?_))
    first | refine zR ?_ | refine zQ ?_
    rfl
  · have q2 : (!decide (((l.length : Nat) : Int) = ((r.length : Nat) : Int))) = false := by rw [q1]; rfl
    have hlr : l.length = r.length := by have := of_decide_eq_true q1; omega
    refine af_enter tok Try.func14 Try.ntmps14 Try.results14 rfl (by kernel_rfl) rfl rfl fun F hX => ?_
    repeat (first | refine gG ?_ | refine zN1 (fun hlen => ?_) | refine zN2 (fun hlen => ?_))
    refine x_loop [4, 5, 13, 14, 15, 16, 17, 18, 19, 20, 21, 22, 23, 24, 25] (fun k : Nat => [(13, .c (.lit (.int .i64 (k : Nat))))]) (fun _ => []) (fun k => k ≤ l.length ∧ eqAt l r k) (fun k => l.length - k) 0 ⟨Nat.zero_le _, rfl⟩ ⟨rfl, trivial⟩ rfl ?_
    rintro k ⟨hk, hE⟩
    repeat (first | refine gG ?_ | refine zN1 (fun hlen => ?_) | refine zN2 (fun hlen => ?_))
    refine x_cond rfl (fun h => ?_) (fun h => ?_)
    · have hk' : k < l.length := by simpa using h
      have hk2 : k < r.length := by omega
      obtain ⟨a, ha⟩ := nth hk'
      obtain ⟨b, hb⟩ := nth hk2
      have hat := int_at ha
      have hbt := int_at hb
      cases d1 : decide (a = b)
      · have d2 : (!decide (a = b)) = true := by rw [d1]; rfl
        have hf : decide (l = r) = false := decide_eq_false fun e => by
          rw [e, hb] at ha
          injection ha with ha
          exact of_decide_eq_false d1 ha.symm
        clear h ha hb q1 q2 hE
        repeat (first | refine gG ?_ | refine zN1 (fun hlen => ?_) | refine zN2 (fun hlen => ?_))
        refine ac_draw [1, 1, 1, 1, 1, 1, 1, 1, 1] [0, 1, 2, 3, 4, 5, 6, 7, 8] (by kernel_rfl) (by kernel_rfl) ?_
        refine gW ?_
        apply w_q; (focus exact rfl); (focus exact rfl); focus (intro _; (refine zIx k hk' ?_); exact det_refl)
        apply w_q; (focus exact rfl); (focus exact rfl); focus (intro _; (refine zEl1 hat ?_); exact det_refl)
        refine gW ?_
        apply w_q; (focus exact rfl); (focus exact rfl); focus (intro _; (refine zIx k hk2 ?_); exact det_refl)
        apply w_q; (focus exact rfl); (focus exact rfl); focus (intro _; (refine zEl1 hbt ?_); exact det_refl)
        refine gW ?_
        refine w_nil ?_
        repeat (first | refine gG ?_ | refine zN1 (fun hlen => ?_) | refine zN2 (fun hlen => ?_))
        first | refine zR ?_ | refine zQ ?_
        rw [hf]; rfl
      · have d2 : (!decide (a = b)) = false := by rw [d1]; rfl
        have hE' : eqAt l r (k + 1) := by
          unfold eqAt at *
          rw [List.take_add_one, List.take_add_one, hE, ha, hb, of_decide_eq_true d1]
        clear h ha hb q1 q2 hE
        repeat (first | refine gG ?_ | refine zN1 (fun hlen => ?_) | refine zN2 (fun hlen => ?_))
        refine ac_draw [1, 1, 1, 1, 1, 1, 1, 1, 1] [0, 1, 2, 3, 4, 5, 6, 7, 8] (by kernel_rfl) (by kernel_rfl) ?_
        refine gW ?_
        apply w_q; (focus exact rfl); (focus exact rfl); focus (intro _; (refine zIx k hk' ?_); exact det_refl)
        apply w_q; (focus exact rfl); (focus exact rfl); focus (intro _; (refine zEl1 hat ?_); exact det_refl)
        refine gW ?_
        apply w_q; (focus exact rfl); (focus exact rfl); focus (intro _; (refine zIx k hk2 ?_); exact det_refl)
        apply w_q; (focus exact rfl); (focus exact rfl); focus (intro _; (refine zEl1 hbt ?_); exact det_refl)
        refine gW ?_
        refine w_nil ?_
        repeat (first | refine gG ?_ | refine zN1 (fun hlen => ?_) | refine zN2 (fun hlen => ?_))
        exact ⟨k + 1, ⟨hk', hE'⟩, by omega, x_wkd 0 ⟨rfl, trivial⟩ rfl (by repeat (first | exact ag_refl | refine ag_upd rfl ?_ | refine ag_at rfl rfl ?_))⟩
    · have hk' : k = l.length := by
        have : ¬ k < l.length := by simpa using h
        omega
      subst hk'
      have hf : decide (l = r) = true := decide_eq_true (by
        unfold eqAt at hE
        rwa [List.take_length, hlr, List.take_length] at hE)
      clear h hE q1 q2
      repeat (first | refine gG ?_ | refine zN1 (fun hlen => ?_) | refine zN2 (fun hlen => ?_))
      first | refine zR ?_ | refine zQ ?_
      rw [hf]; rfl
end Go.Proofs.Ytdogdjcjmhogmaa
namespace Go.Proofs.Ytdogdjcjmhogmaa
open Go.RowKit
@[reducible] def sdB (b : Nat) (l : List Int) (bg : Bool) (st : Int) (vm vw : Value) : Blk := .box b 99 [.c (intRow l), .c (.lit (.bool bg)), .c (.lit (.int .i64 st)), .own 1 vm, .own 2 vw]
@[reducible] def mkB (vm : Value) (m : List Bool) : Blk := .row vm 4 1 m.length (m.flatMap boTs)
def vLits (S : List (Value × List Int)) : List T := S.map fun x => .lit x.1
@[reducible] def owB (vw : Value) (S : List (Value × List Int)) : Blk := .row vw 22 1 S.length (vLits S)
@[reducible] def inB (x : Value × List Int) : Blk := .row x.1 3 1 x.2.length (x.2.flatMap intTs)
def nils (n : Nat) : List (Value × List Int) := List.replicate n (.slice none 0 0, [])
def newErr (l : List Int) : Int := if 8 < l.length then 2 else if l.Nodup then 0 else 5
theorem any_iff {l : List Int} {s : Int} : (l.any fun a => decide (s = a)) = true ↔ s ∈ l := by
  rw [List.any_eq_true]
  constructor
  · rintro ⟨x, hx, he⟩
    rw [of_decide_eq_true he]; exact hx
  · exact fun h => ⟨s, h, decide_eq_true rfl⟩
theorem nodup_step {l : List Int} {k : Nat} {x : Int} (h : (l.take k).Nodup) (hx : l[k]? = some x) (hn : x ∉ l.take k) : (l.take (k + 1)).Nodup := by
  obtain ⟨h1, rfl⟩ := List.getElem?_eq_some_iff.1 hx
  rw [List.take_succ_eq_append_getElem h1, List.nodup_append]
  exact ⟨h, by simp, fun a ha b hb e => hn (by rw [List.mem_singleton] at hb; rw [← hb, ← e]; exact ha)⟩
theorem not_nodup {l : List Int} {k : Nat} {x : Int} (hx : l[k]? = some x) (hm : x ∈ l.take k) : ¬ l.Nodup := by
  intro h
  obtain ⟨h1, rfl⟩ := List.getElem?_eq_some_iff.1 hx
  rw [← List.take_append_drop k l, List.nodup_append] at h
  exact h.2.2 _ hm _ (by rw [List.drop_eq_getElem_cons h1]; exact List.mem_cons_self) rfl
set_option maxRecDepth 100000 in
set_option maxHeartbeats 2000000 in
theorem new_err (l : List Int) (he : newErr l ≠ 0) : AG Try.prog 8 [.c (intRow l)] [] (fun r hs => r = .tup [.c (.lit (.pointer none)), .c (.lit (.int .i64 (newErr l)))] ∧ hs = []) := by
  cases d0 : decide ((8 : Int) < ((l.length : Nat) : Int))
  rotate_left
  · have h8 : newErr l = 2 := by unfold newErr; rw [if_pos (by have := of_decide_eq_true d0; omega)]
    rw [h8]
    clear he h8
    refine ag_enter (0) tok Try.func8 Try.ntmps8 Try.results8 rfl (by kernel_rfl) rfl fun F => ?_
    repeat (first | refine gG ?_ | refine zN1 (fun hlen => ?_) | refine zN2 (fun hlen => ?_) | refine zBx (fun _ => ?_))
    refine zG ?_
    exact ⟨rfl, rfl⟩
  have h8 : ¬ 8 < l.length := by have := of_decide_eq_false d0; omega
  have hnd : ¬ l.Nodup := fun h => he (by unfold newErr; rw [if_neg h8, if_pos h])
  have h5 : newErr l = 5 := by unfold newErr; rw [if_neg h8, if_neg hnd]
  rw [h5]
  clear he h5
  refine ag_enter (0) tok Try.func8 Try.ntmps8 Try.results8 rfl (by kernel_rfl) rfl fun F => ?_
  repeat (first | refine gG ?_ | refine zN1 (fun hlen => ?_) | refine zN2 (fun hlen => ?_) | refine zBx (fun _ => ?_))
  refine x_loop [2, 3, 4, 5, 11, 12, 13, 14, 15, 16, 17, 18, 19, 20, 21] (fun k : Nat => [(11, .c (.lit (.int .i64 (k : Nat))))]) (fun _ => []) (fun k => k ≤ l.length ∧ (l.take k).Nodup) (fun k => l.length - k) 0 ⟨Nat.zero_le _, by simp⟩ ⟨rfl, trivial⟩ rfl ?_
  rintro k ⟨hk, hN⟩
  repeat (first | refine gG ?_ | refine zN1 (fun hlen => ?_) | refine zN2 (fun hlen => ?_) | refine zBx (fun _ => ?_))
  refine x_cond rfl (fun h => ?_) (fun h => ?_)
  · have hk' : k < l.length := by simpa using h
    obtain ⟨a, ha⟩ := nth hk'
    have hat := int_at ha
    have hstep := fun hn => nodup_step hN ha hn
    have hc := hasInt_af (l.take k) a
    have hiff := any_iff (l := l.take k) (s := a)
    generalize (l.take k).any (fun x => decide (a = x)) = z at *
    clear h ha
    repeat (first | refine gG ?_ | refine zN1 (fun hlen => ?_) | refine zN2 (fun hlen => ?_) | refine zBx (fun _ => ?_))
    refine zIx k hk' ?_
    repeat (first | refine gG ?_ | refine zN1 (fun hlen => ?_) | refine zN2 (fun hlen => ?_) | refine zBx (fun _ => ?_))
    refine zEl1 hat ?_
    repeat (first | refine gG ?_ | refine zN1 (fun hlen => ?_) | refine zN2 (fun hlen => ?_) | refine zBx (fun _ => ?_))
    refine zPhf (f := intTs) k hk (fun _ => rfl) ?_
    repeat (first | refine gG ?_ | refine zN1 (fun hlen => ?_) | refine zN2 (fun hlen => ?_) | refine zBx (fun _ => ?_))
    refine zCall (hc) ?_
    rintro _ rfl
    cases z
    · repeat (first | refine gG ?_ | refine zN1 (fun hlen => ?_) | refine zN2 (fun hlen => ?_) | refine zBx (fun _ => ?_))
      exact ⟨k + 1, ⟨hk', hstep fun hm => absurd (hiff.2 hm) (by simp)⟩, by omega, x_wkd 0 ⟨rfl, trivial⟩ rfl (by repeat (first | exact ag_refl | refine ag_upd rfl ?_ | refine ag_at rfl rfl ?_))⟩
    · repeat (first | refine gG ?_ | refine zN1 (fun hlen => ?_) | refine zN2 (fun hlen => ?_) | refine zBx (fun _ => ?_))
      refine zG ?_
      exact ⟨rfl, rfl⟩
  · have hk' : k = l.length := by have : ¬ k < l.length := by simpa using h
                                  omega
    subst hk'
    rw [List.take_length] at hN
    exact absurd hN hnd
set_option maxRecDepth 100000 in
set_option maxHeartbeats 4000000 in
theorem new_ok (l : List Int) (hl : l.length ≤ 8) (hnd : l.Nodup) : AG Try.prog 8 [.c (intRow l)] [] (fun r hs => ∃ b vm vw, r = .tup [.ptr 0 b 0, .c (.lit (.int .i64 0))] ∧ hs = [sdB b l false 0 vm vw, mkB vm (List.replicate l.length false), owB vw (nils l.length)]) := by
  have d0 : decide ((8 : Int) < ((l.length : Nat) : Int)) = false := decide_eq_false (by omega)
  have hC := cloneInt_ag l (by omega)
  have e1 : (List.replicate l.length [T.lit (.bool false)]).flatten = (List.replicate l.length false).flatMap boTs := by
    rw [List.flatMap, List.map_replicate]; rfl
  have e2 : (List.replicate l.length [T.lit (.slice none 0 0)]).flatten = vLits (nils l.length) := by
    unfold vLits nils
    rw [List.map_replicate]
    generalize l.length = n
    induction n with
    | zero => rfl
    | succ n ih => rw [List.replicate_succ, List.replicate_succ, List.flatten_cons, ih]; rfl
  refine ag_enter (3) tok Try.func8 Try.ntmps8 Try.results8 rfl (by kernel_rfl) rfl fun F => ?_
  repeat (first | refine gG ?_ | refine zN1 (fun hlen => ?_) | refine zN2 (fun hlen => ?_) | refine zBx (fun _ => ?_))
  refine x_loop [2, 3, 4, 5, 11, 12, 13, 14, 15, 16, 17, 18, 19, 20, 21] (fun k : Nat => [(11, .c (.lit (.int .i64 (k : Nat))))]) (fun _ => []) (fun k => k ≤ l.length) (fun k => l.length - k) 0 (Nat.zero_le _) ⟨rfl, trivial⟩ rfl ?_
  rintro k hk
  repeat (first | refine gG ?_ | refine zN1 (fun hlen => ?_) | refine zN2 (fun hlen => ?_) | refine zBx (fun _ => ?_))
  refine x_cond rfl (fun h => ?_) (fun h => ?_)
  · have hk' : k < l.length := by simpa using h
    obtain ⟨a, ha⟩ := nth hk'
    have hat := int_at ha
    have hc := hasInt_af (l.take k) a
    have hz : (l.take k).any (fun x => decide (a = x)) = false := by
      cases hz : (l.take k).any (fun x => decide (a = x)) with
      | false => rfl
      | true => exact absurd hnd (not_nodup ha (any_iff.1 hz))
    rw [hz] at hc
    clear h ha hz
    repeat (first | refine gG ?_ | refine zN1 (fun hlen => ?_) | refine zN2 (fun hlen => ?_) | refine zBx (fun _ => ?_))
    refine zIx k hk' ?_
    repeat (first | refine gG ?_ | refine zN1 (fun hlen => ?_) | refine zN2 (fun hlen => ?_) | refine zBx (fun _ => ?_))
    refine zEl1 hat ?_
    repeat (first | refine gG ?_ | refine zN1 (fun hlen => ?_) | refine zN2 (fun hlen => ?_) | refine zBx (fun _ => ?_))
    refine zPhf (f := intTs) k hk (fun _ => rfl) ?_
    repeat (first | refine gG ?_ | refine zN1 (fun hlen => ?_) | refine zN2 (fun hlen => ?_) | refine zBx (fun _ => ?_))
    refine zCall (hc) ?_
    rintro _ rfl
    repeat (first | refine gG ?_ | refine zN1 (fun hlen => ?_) | refine zN2 (fun hlen => ?_) | refine zBx (fun _ => ?_))
    exact ⟨k + 1, hk', by omega, x_wkd 0 ⟨rfl, trivial⟩ rfl (by repeat (first | exact ag_refl | refine ag_upd rfl ?_ | refine ag_at rfl rfl ?_))⟩
  · clear h
    repeat (first | refine gG ?_ | refine zN1 (fun hlen => ?_) | refine zN2 (fun hlen => ?_) | refine zBx (fun _ => ?_))
    refine ac_drawT [1, 1, 1, 1, 3, 1, 1, 3, 1, 3, 1, 1] (.fork [0, 1, 2, 3, 5, 6] 4 (.fin [7, 8, 9, 10, 11]) 7 (.fin [4, 8, 9, 10, 11])) (by kernel_rfl) (by kernel_rfl) ?_
    refine wt_fork ?_
    refine gW ?_
    apply w_q; (focus exact rfl); (focus exact rfl); focus (intro _; (refine zPeekC hC (fun r hs h => h) (flat_ints l) ?_); exact det_refl)
    refine gW ?_
    refine w_nil ?_
    refine ⟨?_, ?_⟩
    · apply w_a; (focus exact rfl); (focus exact rfl); refine zMk l.length [.lit (.bool false)] (fun _ => ⟨⟨_, rfl⟩, ?_⟩)
      refine w_nil ?_
      refine wt_fin ?_
      apply w_a; (focus exact rfl); (focus exact rfl); refine zMk l.length [.lit (.slice none 0 0)] (fun _ => ⟨⟨_, rfl⟩, ?_⟩)
      refine gW ?_
      apply w_a; (focus exact rfl); (focus exact rfl); refine v_box rfl rfl rfl rfl (fun _ => rfl) (fun _ => ⟨⟨_, rfl⟩, ?_⟩)
      refine gW ?_
      refine w_nil ?_
      rename_i va vb bb
      first | (refine x_pick [2, 0, 1] ?_; refine x_boxR 0 [.c (intRow l), .c (.lit (.bool false)), .c (.lit (.int .i64 0)), .own 1 va, .own 2 vb] ?_ rfl (res_cons re_refl (res_cons re_refl (res_cons re_refl (res_cons re_own (res_cons re_own res_nil))))) rfl; refine x_reptr 2 0 rfl ?_; refine ac_ret ?_; refine zG ?_; refine ⟨bb, va, vb, rfl, ?_⟩; simp only [e1, e2, nils, sdB, mkB, owB, List.length_replicate]) | (refine x_pick [2, 1, 0] ?_; refine x_boxR 0 [.c (intRow l), .c (.lit (.bool false)), .c (.lit (.int .i64 0)), .own 1 vb, .own 2 va] ?_ rfl (res_cons re_refl (res_cons re_refl (res_cons re_refl (res_cons re_own (res_cons re_own res_nil))))) rfl; refine x_reptr 2 0 rfl ?_; refine ac_ret ?_; refine zG ?_; refine ⟨bb, vb, va, rfl, ?_⟩; simp only [e1, e2, nils, sdB, mkB, owB, List.length_replicate])
          
    · apply w_a; (focus exact rfl); (focus exact rfl); refine zMk l.length [.lit (.slice none 0 0)] (fun _ => ⟨⟨_, rfl⟩, ?_⟩)
      refine w_nil ?_
      refine wt_fin ?_
      apply w_a; (focus exact rfl); (focus exact rfl); refine zMk l.length [.lit (.bool false)] (fun _ => ⟨⟨_, rfl⟩, ?_⟩)
      refine gW ?_
      apply w_a; (focus exact rfl); (focus exact rfl); refine v_box rfl rfl rfl rfl (fun _ => rfl) (fun _ => ⟨⟨_, rfl⟩, ?_⟩)
      refine gW ?_
      refine w_nil ?_
      rename_i va vb bb
      first | (refine x_pick [2, 0, 1] ?_; refine x_boxR 0 [.c (intRow l), .c (.lit (.bool false)), .c (.lit (.int .i64 0)), .own 1 va, .own 2 vb] ?_ rfl (res_cons re_refl (res_cons re_refl (res_cons re_refl (res_cons re_own (res_cons re_own res_nil))))) rfl; refine x_reptr 2 0 rfl ?_; refine ac_ret ?_; refine zG ?_; refine ⟨bb, va, vb, rfl, ?_⟩; simp only [e1, e2, nils, sdB, mkB, owB, List.length_replicate]) | (refine x_pick [2, 1, 0] ?_; refine x_boxR 0 [.c (intRow l), .c (.lit (.bool false)), .c (.lit (.int .i64 0)), .own 1 vb, .own 2 va] ?_ rfl (res_cons re_refl (res_cons re_refl (res_cons re_refl (res_cons re_own (res_cons re_own res_nil))))) rfl; refine x_reptr 2 0 rfl ?_; refine ac_ret ?_; refine zG ?_; refine ⟨bb, vb, va, rfl, ?_⟩; simp only [e1, e2, nils, sdB, mkB, owB, List.length_replicate])
set_option maxRecDepth 100000 in
set_option maxHeartbeats 2000000 in
theorem begin_yes (b : Nat) (l : List Int) (st : Int) (vm vw : Value) (k : Int) : AG Try.prog 9 [.ptr 0 b 0, .c (.lit (.int .i64 k))] [sdB b l true st vm vw] (fun r hs => r = .c (.lit (.int .i64 8)) ∧ hs = [sdB b l true st vm vw]) := by
  refine ag_enter (1) tok Try.func9 Try.ntmps9 Try.results9 rfl (by kernel_rfl) rfl fun F => ?_
  repeat (first | refine gG ?_)
  refine zG ?_
  exact ⟨rfl, rfl⟩
set_option maxRecDepth 100000 in
set_option maxHeartbeats 2000000 in
theorem begin_no (b : Nat) (l : List Int) (st : Int) (vm vw : Value) (k : Int) : AG Try.prog 9 [.ptr 0 b 0, .c (.lit (.int .i64 k))] [sdB b l false st vm vw] (fun r hs => r = .c (.lit (.int .i64 0)) ∧ hs = [sdB b l true k vm vw]) := by
  refine ag_enter (1) tok Try.func9 Try.ntmps9 Try.results9 rfl (by kernel_rfl) rfl fun F => ?_
  repeat (first | refine gG ?_)
  refine zG ?_
  exact ⟨rfl, rfl⟩
end Go.Proofs.Ytdogdjcjmhogmaa
