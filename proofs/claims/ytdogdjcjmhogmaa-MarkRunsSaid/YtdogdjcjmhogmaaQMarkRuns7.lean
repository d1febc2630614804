/-
  Texts of this proof, part 7: Ab47 Ab48 Ab50 Ab51 Koa Kob Ir.
-/
import Derived.Test.YtdogdjcjmhogmaaQMarkRuns6
import Derived.WideKeyEntry
namespace Go.Proofs.Ytdogdjcjmhogmaa
open Go.RowKit
def Dj (x y : Blk) : Prop := ∀ b, x.blk = some b → y.blk ≠ some b
theorem Dj.symm {x y : Blk} (h : Dj x y) : Dj y x := fun b h1 h2 => h b h2 h1
structure HpOk (F : Frm) (M : Mm) (hp : List Blk) (w : World) : Prop where
  mem : MemOk M w
  ext : Ext F.may F.M0 M
  frm : Keeps F w
  at_ : ∀ x ∈ hp, BlkOk M w x
  sep : hp.Pairwise Dj
  out : ∀ x ∈ hp, ∀ b, x.blk = some b → F.may b ∧ ∀ p : Addr, p.block = b → M p = none
section
variable {F : Frm} {M : Mm} {hp hp' : List Blk} {w : World}
theorem HeapOk.all (h : HeapOk F M hp w) : HpOk F M hp w := by
  refine ⟨h.mem, h.ext, h.frm, fun x hx => ?_, ?_, fun x hx b hb => ?_⟩
  · obtain ⟨i, hi⟩ := List.getElem?_of_mem hx
    exact h.at_ i x hi
  · rw [List.pairwise_iff_getElem]
    intro i j hi hj hij b h1 h2
    have := h.sep i j _ _ b (List.getElem?_eq_getElem hi) (List.getElem?_eq_getElem hj) h1 h2
    omega
  · obtain ⟨i, hi⟩ := List.getElem?_of_mem hx
    exact h.out i x b hi hb
theorem HpOk.heap (h : HpOk F M hp w) : HeapOk F M hp w := by
  have hs := List.pairwise_iff_getElem.1 h.sep
  refine ⟨h.mem, h.ext, h.frm, fun i x hi => h.at_ x (List.mem_of_getElem? hi), fun i j x y b hi hj hx hy => ?_, fun i x b hi hb => h.out x (List.mem_of_getElem? hi) b hb⟩
  obtain ⟨hi', rfl⟩ := List.getElem?_eq_some_iff.1 hi
  obtain ⟨hj', rfl⟩ := List.getElem?_eq_some_iff.1 hj
  rcases Nat.lt_trichotomy i j with hlt | rfl | hlt
  · exact absurd hy (hs i j hi' hj' hlt b hx)
  · rfl
  · exact absurd hx (hs j i hj' hi' hlt b hy)
theorem HeapOk.perm (h : HeapOk F M hp w) (hq : hp.Perm hp') : HeapOk F M hp' w :=
  let h := h.all
  HpOk.heap ⟨h.mem, h.ext, h.frm, fun x hx => h.at_ x (hq.mem_iff.2 hx), (hq.pairwise_iff (fun h => Dj.symm h)).1 h.sep, fun x hx => h.out x (hq.mem_iff.2 hx)⟩
theorem wk_perm {τ : Nat → AV} {N : Nat} (hq : hp.Perm hp') : Wk F ⟨τ, hp, N⟩ ⟨τ, hp', N⟩ := fun M _ _ hr => ⟨M, hr.tmps, hr.size, hr.defers, hr.heap.perm hq⟩
theorem sub_gx2 {A B : List Blk} (h : HeapOk F M (A ++ B) w) : ∀ x ∈ globTab, ¬ ∃ (i : Nat) (y : Blk), A[i]? = some y ∧ y.blk = some x.1 := by
  rintro x hx ⟨i, y, h1, h2⟩
  obtain ⟨t, fr, e⟩ := F.G x hx
  rcases (h.all.out y (List.mem_append_left _ (List.mem_of_getElem? h1)) x.1 h2).1 with h4 | h4
  · exact F.GX x hx h4
  · have := (Array.getElem?_eq_some_iff.1 e).1; omega
theorem HeapOk.part {A B : List Blk} (h : HeapOk F M (A ++ B) w) : HeapOk (subF M A w h.glob (sub_gx2 h)) M A w := by
  have hq := h.all
  refine HpOk.heap ⟨h.mem, Ext.refl _ _, ⟨rfl, rfl, rfl, Nat.le_refl _, fun _ _ _ => rfl⟩, fun x hx => hq.at_ x (List.mem_append_left _ hx), (List.pairwise_append.1 hq.sep).1, fun x hx b hb => ?_⟩
  obtain ⟨i, hi⟩ := List.getElem?_of_mem hx
  exact ⟨.inl ⟨i, x, hi, hb⟩, (hq.out x (List.mem_append_left _ hx) b hb).2⟩
theorem part_may {A B : List Blk} (h : HeapOk F M (A ++ B) w) (b : Nat) (hb : (subF M A w h.glob (sub_gx2 h)).may b) : F.may b := by
  rcases hb with ⟨i, x, hx, hxb⟩ | hb
  · exact (h.all.out x (List.mem_append_left _ (List.mem_of_getElem? hx)) b hxb).1
  · exact .inr (Nat.le_trans h.frm.size hb)
theorem HeapOk.join {A B A' : List Blk} {M' : Mm} {w' : World} (h : HeapOk F M (A ++ B) w) (h2 : HeapOk (subF M A w h.glob (sub_gx2 h)) M' A' w') : HeapOk F M' (A' ++ B) w' := by
  have hq := h.all
  have hq2 := h2.all
  have hM : Ext (subF M A w h.glob (sub_gx2 h)).may M M' := h2.ext
  have hX : ∀ b, (subF M A w h.glob (sub_gx2 h)).X b → ∃ x ∈ A, x.blk = some b := by
    rintro b ⟨i, x, hx, hb⟩
    exact ⟨x, List.mem_of_getElem? hx, hb⟩
  have hsep := List.pairwise_append.1 hq.sep
  have hold : ∀ x ∈ B, ∀ b, x.blk = some b → b < w.heap.size ∧ ¬ (subF M A w h.glob (sub_gx2 h)).X b := by
    intro x hx b hb
    refine ⟨(hq.at_ x (List.mem_append_right _ hx)).lt hb, fun hXb => ?_⟩
    obtain ⟨y, hy, hyb⟩ := hX b hXb
    exact hsep.2.2 y hy x hx b hyb hb
  refine HpOk.heap ⟨h2.mem, h.ext.trans (hM.to (part_may h)), ⟨h2.frm.os.trans h.frm.os, h2.frm.tape.trans h.frm.tape, h2.frm.output.trans h.frm.output, Nat.le_trans h.frm.size h2.frm.size, fun b hb hnX => ?_⟩, fun x hx => ?_, List.pairwise_append.2 ⟨hq2.sep, hsep.2.1, fun x hx y hy b hxb hyb => ?_⟩, fun x hx b hxb => ?_⟩
  · refine (h2.frm.block b (Nat.lt_of_lt_of_le hb h.frm.size) fun hXb => ?_).trans (h.frm.block b hb hnX)
    obtain ⟨y, hy, hyb⟩ := hX b hXb
    rcases (hq.out y (List.mem_append_left _ hy) b hyb).1 with h3 | h3
    · exact hnX h3
    · omega
  · rcases List.mem_append.1 hx with hx | hx
    · exact hq2.at_ x hx
    · exact (hq.at_ x (List.mem_append_right _ hx)).keep hM.sub fun b hb hlt => h2.frm.block b hlt (hold x hx b hb).2
  · obtain ⟨h3, h4⟩ := hold y hy b hyb
    rcases (hq2.out x hx b hxb).1 with h5 | h5
    · exact h4 h5
    · have : w.heap.size ≤ b := h5
      omega
  · rcases List.mem_append.1 hx with hx | hx
    · obtain ⟨h3, h4⟩ := hq2.out x hx b hxb
      refine ⟨?_, h4⟩
      rcases h3 with h5 | h5
      · obtain ⟨y, hy, hyb⟩ := hX b h5
        exact (hq.out y (List.mem_append_left _ hy) b hyb).1
      · exact .inr (Nat.le_trans h.frm.size h5)
    · obtain ⟨h3, h4⟩ := hq.out x (List.mem_append_right _ hx) b hxb
      refine ⟨h3, fun p hp' => ?_⟩
      have hlt := hold x hx b hxb
      cases hc : M' p with
      | none => rfl
      | some v =>
        rcases hM.2 p v hc with h5 | h5
        · rw [h4 p hp'] at h5; cases h5
        · rcases h5 with h6 | h6
          · exact absurd (hp' ▸ h6) hlt.2
          · have h7 : w.heap.size ≤ p.block := h6
            omega
end
section
variable {P : Program} {F : Frm} {Q : Exit → AS → Prop} {τ : Nat → AV} {hp hp' : List Blk} {N : Nat}
theorem x_perm {c : Go.Code} (hq : hp.Perm hp') (h : AC P F c Q ⟨τ, hp', N⟩) : AC P F c Q ⟨τ, hp, N⟩ := ac_wk (wk_perm hq) h
theorem x_eq {c : Go.Code} (hq : hp = hp') (h : AC P F c Q ⟨τ, hp', N⟩) : AC P F c Q ⟨τ, hp, N⟩ := by subst hq; exact h
/-- nil in a slot becomes a row of the call's own, anywhere among the blocks -/
theorem x_ownP {c : Go.Code} (s : Nat) (e : TypeId) (sz : Nat) (k : Nat) (hq : (hp ++ [Blk.row (.slice none 0 0) e sz 0 []]).Perm hp') (h : AC P F c Q ⟨upd N s (.own k (.slice none 0 0)) τ, hp', N⟩) (h0 : Nat.ble 1 sz = true := by exact rfl) (hs : τ s = .c (.lit (.slice none 0 0)) := by exact rfl) : AC P F c Q ⟨τ, hp, N⟩ := by
  refine ac_wk ?_ h
  intro M a w hr
  have hh : HeapOk F M (hp ++ [.row (.slice none 0 0) e sz 0 []]) w :=
    push_row hr.heap rfl rfl rfl (Nat.le_refl _) (fun _ _ => rfl) (Ext.refl _ _) (fun p v h1 h2 => by rw [h2] at h1; cases h1) ⟨[], ownsO_nil _ _ _, by simp only [RTs], fun x hx => by simp at hx, Nat.le_of_ble_eq_true h0⟩ (fun b hb => by simp [Blk.blk, Value.ownBlock] at hb)
  refine ⟨M, fun i => ?_, hr.size, hr.defers, hh.perm hq⟩
  have h1 := hr.tmps i
  simp only [upd]
  cases hc : Nat.beq i s with
  | false => simp only [Bool.false_and, cond_false]; exact h1
  | true =>
    obtain rfl := Nat.eq_of_beq_eq_true hc
    cases hN : Nat.blt i N with
    | false => simp only [Bool.and_false, cond_false]; exact h1
    | true =>
      simp only [hs, RA, RT] at h1
      simp only [Bool.and_true, cond_true, RA]
      exact ⟨h1, rfl⟩
/-- a row of the call's own becomes memory that only is read -/
theorem x_fzS {c : Go.Code} (s : Nat) {i : Nat} {v : Value} {e : TypeId} {sz n : Nat} {ts : List T} (h : AC P F c Q ⟨upd N s (.c (.row n sz ts)) τ, hp.set i .dead, N⟩) (hs : τ s = .own i v := by exact rfl) (hi : hp[i]? = some (.row v e sz n ts) := by exact rfl) : AC P F c Q ⟨τ, hp, N⟩ := by
  refine ac_wk ?_ h
  intro M a w hr
  obtain ⟨h1, h2⟩ := heap_frz hr.heap hi
  refine ⟨_, fun k => ?_, hr.size, hr.defers, h1⟩
  have h3 := hr.tmps k
  simp only [upd]
  cases hc : Nat.beq k s with
  | false => simp only [Bool.false_and, cond_false]; exact RA.mono (frB_sub _ _ _) _ _ h3
  | true =>
    obtain rfl := Nat.eq_of_beq_eq_true hc
    cases hN : Nat.blt k N with
    | false => simp only [Bool.and_false, cond_false]; exact RA.mono (frB_sub _ _ _) _ _ h3
    | true =>
      simp only [hs, RA] at h3
      simp only [Bool.and_true, cond_true, RA]
      rw [h3.1]; exact h2
/-- rows that are nil -/
theorem wk_nils (e : TypeId) (sz : Nat) (h0 : 0 < sz) : ∀ n : Nat, Wk F ⟨τ, hp, N⟩ ⟨τ, hp ++ List.replicate n (.row (.slice none 0 0) e sz 0 []), N⟩
  | 0 => by simpa using Wk.refl _
  | n + 1 => by
    refine Wk.trans (wk_nils e sz h0 n) ?_
    intro M a w hr
    refine ⟨M, hr.tmps, hr.size, hr.defers, ?_⟩
    have := push_row hr.heap rfl rfl rfl (Nat.le_refl _) (fun _ _ => rfl) (Ext.refl _ _) (fun p v h1 h2 => by rw [h2] at h1; cases h1) (x := .row (.slice none 0 0) e sz 0 []) ⟨[], ownsO_nil _ _ _, by simp only [RTs], fun x hx => by simp at hx, h0⟩ (fun b hb => by simp [Blk.blk, Value.ownBlock] at hb)
    rw [List.replicate_succ', ← List.append_assoc]
    exact this
/-- what a variable holds, said otherwise -/
theorem wk_boxR (i : Nat) {b : Nat} {t : TypeId} {cs : List AV} (cs' : List AV) (hi : hp[i]? = some (.box b t cs)) (hz : Res cs cs') : Wk F ⟨τ, hp, N⟩ ⟨τ, hp.set i (.box b t cs'), N⟩ := by
  intro M a w hr
  refine ⟨M, hr.tmps, hr.size, hr.defers, hr.heap.step i rfl rfl rfl (Nat.le_refl _) (fun _ _ _ => rfl) (Ext.refl _ _) (fun p v h1 h2 => by rw [h2] at h1; cases h1) (fun j hj => by rw [List.getElem?_set_ne (Ne.symm hj)]) (fun x' hx' => ?_)⟩
  have hlt : i < hp.length := (List.getElem?_eq_some_iff.1 hi).1
  rw [List.getElem?_set_self hlt] at hx'
  obtain rfl : Blk.box b t cs' = x' := by injection hx'
  obtain ⟨xs, h1, h2, h3⟩ := hr.heap.at_ i _ hi
  exact ⟨⟨xs, h1, hz _ _ h2, h3⟩, fun b' hb' => .inl ⟨_, hi, hb'⟩⟩
theorem x_boxR {c : Go.Code} (i : Nat) (cs' : List AV) {b : Nat} {t : TypeId} {cs : List AV} (h : AC P F c Q ⟨τ, hp', N⟩) (hi : hp[i]? = some (.box b t cs) := by exact rfl) (hz : Res cs cs' := by repeat (first | exact res_nil | apply res_cons | exact re_own | exact re_ptr | exact re_refl)) (hf : evl (hp.set i (.box b t cs')) = some hp' := by exact rfl) : AC P F c Q ⟨τ, hp, N⟩ :=
  ac_wk (wk_boxR i cs' hi hz) (by rw [← evl_eq hf]; exact h)
/-- a slot holds a row of the call's own -/
theorem x_asO {c : Go.Code} (s j : Nat) {v : Value} {e : TypeId} {sz n : Nat} {cs : List T} (hs : τ s = .c (.lit v)) (hj : hp[j]? = some (.row v e sz n cs)) (h : AC P F c Q ⟨upd N s (.own j v) τ, hp, N⟩) : AC P F c Q ⟨τ, hp, N⟩ := by
  refine ⟨fun M a w hr => ?_⟩
  have h1 : v.oneCell' = true := by
    obtain ⟨xs, ho, _⟩ := hr.heap.at_ j _ hj
    exact own_oneO ho
  exact (ac_wk (wk_as s (.own j v) fun M u h => by rw [hs] at h; simp only [RA, RT] at h ⊢; exact ⟨h, h1⟩) h).out M a w hr
end
section
variable {P : Program} {F : Frm} {o : Oper} {ρ : Operand → AV} {hp : List Blk} {K : AV → List Blk → Prop}
/-- an operation touches the blocks of A alone -/
theorem lo_frame (A B : List Blk) (hq : hp.Perm (A ++ B)) (h : ∀ F', LO P F' o ρ A (fun v A' => K v (A' ++ B))) : LO P F o ρ hp K := by
  refine ⟨fun M e w he hh => ?_⟩
  have hh := hh.perm hq
  refine ((h (subF M A w hh.glob (sub_gx2 hh))).out M e w he hh.part).mono ?_
  rintro u w' ⟨M', v, A', hK, hx, hh2, hr⟩
  exact ⟨M', v, _, hK, hx.to (part_may hh), hh.join hh2, hr⟩
/-- what comes out is a row of the call's own -/
theorem lo_as (j : Nat) (h : LO P F o ρ hp fun a hp' => ∃ v e sz n cs, a = .c (.lit v) ∧ hp'[j]? = some (.row v e sz n cs) ∧ K (.own j v) hp') : LO P F o ρ hp K := by
  refine ⟨fun M e w he hh => (h.out M e w he hh).mono ?_⟩
  rintro u w' ⟨M', a, hp', ⟨v, e, sz, n, cs, rfl, hj, hK⟩, hx, hh2, hr⟩
  have h1 : v.oneCell' = true := by
    obtain ⟨xs, ho, _⟩ := hh2.at_ j _ hj
    exact own_oneO ho
  exact ⟨M', _, hp', hK, hx, hh2, by simp only [RA, RT] at hr ⊢; exact ⟨hr, h1⟩⟩
/-- what comes out is a pointer to a variable of the call's own, or a map of the call's own -/
theorem lo_asp (j : Nat) (h : LO P F o ρ hp fun a hp' => ∃ b off, a = .c (.lit (.pointer (some ⟨b, off, none⟩))) ∧ K (.ptr j b off) hp') : LO P F o ρ hp K := by
  refine ⟨fun M e w he hh => (h.out M e w he hh).mono ?_⟩
  rintro u w' ⟨M', a, hp', ⟨b, off, rfl, hK⟩, hx, hh2, hr⟩
  exact ⟨M', _, hp', hK, hx, hh2, by simpa only [RA, RT] using hr⟩
end
theorem zGS {L : Tab} {σ : AS} {res : List ResultVar} {k : Nat} {R : AV → List Blk → Prop} {e : Exit} {vs : List AV} {hq : List Blk} (hh : σ.hp.take k = hq) (h : R (outA vs) hq) (he : e = .normal ∨ e = .ret := by first | exact .inl rfl | exact .inr rfl)
    (ho : OutsA L σ res vs := by repeat (first | exact outsA_nil | apply outsA_cons | (apply outA_tmp; (focus exact rfl)) | (apply outA_agg; (focus exact rfl); (focus exact rfl); (focus exact rfl); (focus exact rfl); (focus exact rfl); (focus exact rfl)) | (apply outA_one; (focus exact rfl); (focus exact rfl); (focus exact rfl); (focus exact rfl); (focus exact rfl)))) : FinG L res k R e σ := ⟨he, vs, ho, by rw [hh]; exact h⟩
theorem re_ol {i : Nat} {v : Value} : Re (.own i v) (.c (.lit v)) := fun M u h => by simp only [RA, RT] at h ⊢; exact h.1
theorem re_pl {i b off : Nat} : Re (.ptr i b off) (.c (.lit (.pointer (some ⟨b, off, none⟩)))) := fun M u h => by simp only [RA, RT] at h ⊢; exact h
/-- what lies in cells, asq closed trees -/
def Shut (v : AV) (ts : List T) : Prop := ∀ M u, RA M v u → RTs M ts u.cells.toList ∧ OneAll u.cells.toList
theorem shut_own {i : Nat} {v : Value} : Shut (.own i v) [.lit v] := by
  intro M u h
  simp only [RA] at h
  obtain ⟨rfl, h1⟩ := h
  rw [cells_one h1]
  exact ⟨by simp [RTs, RT], fun x hx => by simp at hx; rw [hx]; exact h1⟩
section
variable {P : Program} {F : Frm} {L : Tab} {d : Option Tmp} {ty : TypeId} {pos : String} {aft : Array Edge} {g : Option (Nat × Bool)} {ρ : Operand → AV} {hp : List Blk} {K : AV → List Blk → Prop}
/-- a call that is handed all the blocks -/
theorem zCallAll {f : FuncId} {y : Operand} {xs : List Operand} {ats : Array TypeId} {asq cap : List AV} {hs : List Blk} {R : AV → List Blk → Prop} (hc : AG P f asq hs R) (hq : hp.Perm hs) (h : ∀ r hs2, R r hs2 → ∃ r', Re r r' ∧ K r' hs2) (hy : ρ y = .fn (.func f) cap := by exact rfl)
    (hx : Res (xs.map ρ ++ cap) asq := by repeat (first | exact res_nil | apply res_cons | exact re_own | exact re_ptr | exact re_refl | apply re_cls | exact rzs_nil | apply rzs_cons | exact rz_c | exact rz_nil rfl | apply rz_agg | apply rz_fn | apply rz_tup)) :
    LO P F ⟨d, .call { callee := .value y, args := xs.toArray, argTypes := ats }, ty, pos, aft, g⟩ ρ hp K := by
  refine ⟨fun M e w he hh => ?_⟩
  obtain ⟨hE, hcall⟩ := hc
  have h1 := he y (by simp [Op.operands, Call.operands])
  rw [hy] at h1
  simp only [RA] at h1
  obtain ⟨cs, hu, hcs⟩ := h1
  rw [run_call hE hu]
  have hargs := hx M _ ((ev_all xs (fun x hx => he x (by simp [Op.operands, Call.operands, hx]))).app hcs)
  refine (hcall F M w _ (hh.perm hq) hargs).mono ?_
  rintro e' w' ⟨v, r, hs2, M', rfl, hR, hM, hh2, hr⟩
  obtain ⟨r', hre, hK⟩ := h r hs2 hR
  exact ⟨v, rfl, M', r', hs2, hK, hM, hh2, hre M' v hr⟩
/-- a call that looks at the caller's own, and hands back a fresh row of flat cells, which only is read from here on -/
theorem zPeekC {f : FuncId} {y : Operand} {xs : List Operand} {ats : Array TypeId} {ts : List T} {R : AV → List Blk → Prop} {cap : List AV} {e : TypeId} {sz n : Nat} {cs : List T} (hc : AG P f (ts.map .c) [] R) (hR : ∀ r hs, R r hs → ∃ v, r = .own 0 v ∧ hs = [.row v e sz n cs]) (hfl : flatTs cs = true) (h : K (.c (.row n sz cs)) hp) (hy : ρ y = .fn (.func f) cap := by exact rfl)
    (hx : Rz2s hp (xs.map ρ ++ cap) ts := by repeat (first | exact rz2s_nil | apply rz2s_cons | apply rz2_fn | (apply rz2_ptr; (focus exact rfl)) | apply rz2_c | apply rz2_own | apply rz2_agg | exact rzs_nil | apply rzs_cons | exact rz_c | exact rz_nil rfl | apply rz_agg | exact rz_own rfl | apply rz_fn | exact rz_ptr rfl | apply rz_tup)) : LO P F ⟨d, .call { callee := .value y, args := xs.toArray, argTypes := ats }, ty, pos, aft, g⟩ ρ hp K := by
  refine ⟨fun M ev w he hh => ?_⟩
  obtain ⟨hE, hcall⟩ := hc
  have h1 := he y (by simp [Op.operands, Call.operands])
  rw [hy] at h1
  simp only [RA] at h1
  obtain ⟨us, hu, hcs⟩ := h1
  rw [run_call hE hu]
  have hargs := rz2s_sound hh (B := 0) (fun _ _ _ _ _ => Nat.zero_le _) _ _ _ hx ((ev_all xs (fun x hx => he x (by simp [Op.operands, Call.operands, hx]))).app hcs)
  have hH : HeapOk ⟨w, fun _ => False, frz M 0 w, hh.glob, fun _ _ h => h⟩ (frz M 0 w) [] w :=
    ⟨frz_ok hh.mem 0, Ext.refl _ _, ⟨rfl, rfl, rfl, Nat.le_refl _, fun _ _ _ => rfl⟩, fun i x hx => by simp at hx, fun i j x y b hx => by simp at hx, fun i x b hx => by simp at hx⟩
  refine (hcall _ _ w _ hH (RAs.ofT hargs)).mono ?_
  rintro e' w' ⟨u, r, hs', M', rfl, hr, _, hh2, hru⟩
  obtain ⟨v, rfl, rfl⟩ := hR r hs' hr
  obtain ⟨vs, ho, hrs, hone, h0⟩ := hh2.at_ 0 _ rfl
  have hp1 : HeapOk F M (hp ++ [.row v e sz n cs]) w' := by
    refine push_row hh hh2.frm.os hh2.frm.tape hh2.frm.output hh2.frm.size (fun b hb => hh2.frm.block b hb (fun h => h)) (Ext.refl _ _) (fun p v h1 h2 => by rw [h2] at h1; cases h1) ⟨vs, ho, flats_any _ _ hfl hrs, hone, h0⟩ (fun b hb => ?_)
    obtain ⟨h3, _⟩ := hh2.out 0 _ b rfl hb
    have h4 : w.heap.size ≤ b := h3.resolve_left (fun h => h)
    refine ⟨h4, fun p hp => ?_⟩
    cases hm : M p with
    | none => rfl
    | some z =>
      have := World.block_lt_of_cell? w p (hh.mem p z hm).1
      omega
  obtain ⟨h5, h6⟩ := heap_frz hp1 (i := hp.length) (v := v) (e := e) (sz := sz) (n := n) (ts := cs) (by simp)
  have h7 := h5.take hp.length
  rw [List.take_set_of_le (Nat.le_refl _), List.take_left] at h7
  simp only [RA] at hru
  rw [hru.1]
  refine ⟨v, rfl, _, _, hp, h, ⟨frB_sub _ _ _, fun p z hz => ?_⟩, h7, by simp only [RA]; exact h6⟩
  cases hm : M p with
  | some z' =>
    have := frB_sub M v.ownBlock w' p z' hm
    rw [hz] at this
    exact .inl (by rw [← this])
  | none =>
    obtain ⟨hg, _⟩ := frB_new hz hm
    exact .inr (hp1.out hp.length (.row v e sz n cs) p.block (by simp) hg).1
/-- a store into a row of the call's own, of what can be said asq closed trees -/
theorem lo_store_eG (hL : TabOk P L) {t : TypeId} {ti : TI} {x y : Operand} {i off n sz : Nat} {v : Value} {e' : TypeId} {cs us : List T} (hx : ρ x = .eptr i v off) (hi : hp[i]? = some (.row v e' sz n cs)) (hy : Shut (ρ y) us) (ht : L.look t = some ti) (hl : us.length = ti.size) (hb : off + ti.size ≤ cs.length)
    (h : K (.c (.lit undef)) (hp.set i (.row v e' sz n (spl cs off us)))) : LO P F ⟨d, .store t x y, ty, pos, aft, g⟩ ρ hp K := by
  refine ⟨fun M e w he hh => ?_⟩
  have hax := he x (by simp [Op.operands])
  rw [hx] at hax
  simp only [RA] at hax
  obtain ⟨ad, m, c, rfl, hax⟩ := hax
  have hvy := he y (by simp [Op.operands])
  obtain ⟨hct, ho⟩ := hy M _ hvy
  obtain ⟨xs, how, hxs, hone, hsz⟩ := hh.at_ i _ hi
  have hlen := hxs.len
  have hcl := hct.len
  have hcs : (e y).cells.size = ti.size := by rw [← hl, ← hcl]; simp
  rcases how.2 with ⟨h0, _⟩ | ⟨g', o', cap, cur, hv, hg, hnc, hcm, hcur, htk⟩
  · cases h0
  · have hA : ad = ⟨g', o', none⟩ := by injection hv with h; injection h
    have hmn : m = n := by injection hv
    have hcc : c = cap := by injection hv
    subst hA; subst hmn; subst hcc
    have hxl := how.1
    have hoff : off + (e y).cells.toList.length ≤ xs.length := by rw [hlen]; simp [hcs]; omega
    have hcl2 : o' + xs.length ≤ cur.size := by rw [hxl]; have := Nat.mul_le_mul_right sz hnc; omega
    have hst := run_storeCells_at (P := P) g' (o' + off) e' (e y).cells.toList 0 cur w hg (by simp at hoff ⊢; omega) ho
    have hrun : (execOp e ⟨d, .store t x y, ty, pos, aft, g⟩).run P w = .ok .skip (w.setRow g' (spl cur.toList (o' + off) (e y).cells.toList).toArray) := by
      rw [spl_eq _ _ _ (by simp at hoff ⊢; omega)]
      have hadd : (⟨g', o', none⟩ : Addr).add off = ⟨g', o' + off, none⟩ := by rw [box_add]
      simp [execOp, Instr.storeAt, hax, hadd, Instr.sureAddr, storeVar, hL.sizeOf ht, hcs] at hst ⊢
      simp [hst]
    rw [hrun]
    refine ⟨M, _, _, h, Ext.refl _ _, ?_, by simp only [RA, RT]⟩
    have hblk := setRow_heap w g' cur (spl cur.toList (o' + off) (e y).cells.toList).toArray e' _ hg
    refine hh.step i rfl rfl rfl (by simp [World.setRow]) (fun k hk hne => ?_) (Ext.refl _ _) (fun p v h1 h2 => by rw [h2] at h1; cases h1) (fun j hj => by rw [List.getElem?_set_ne (Ne.symm hj)]) (fun x' hx' => ?_)
    · have : k ≠ g' := fun e => hne _ hi (by rw [e]; rfl)
      simp [World.setRow, Array.getElem?_modify, Ne.symm this]
    · have hlt : i < hp.length := (List.getElem?_eq_some_iff.1 hi).1
      rw [List.getElem?_set_self hlt] at hx'
      obtain rfl : Blk.row (.slice (some ⟨g', o', none⟩) m c) e' sz m (spl cs off us) = x' := by injection hx'
      refine ⟨⟨spl xs off (e y).cells.toList, ⟨by rw [spl_len]; exact hxl, .inr ⟨g', o', c, (spl cur.toList (o' + off) (e y).cells.toList).toArray, rfl, hblk, hnc, hcm, by simpa [spl_len] using hcur, ?_⟩⟩, RTs.spl hxs hct, spl_one hone ho, hsz⟩, fun b' hb' => .inl ⟨_, hi, hb'⟩⟩
      simp only
      rw [spl_eq _ _ _ (by simp at hoff ⊢; omega), spl_eq _ _ _ hoff, ← htk]
      have hk : off + (e y).cells.toList.length ≤ m * sz := by rw [← hxl]; exact hoff
      have hcl3 : o' + m * sz ≤ cur.toList.length := by rw [hxl] at hcl2; simpa using hcl2
      rw [drop_spl cur.toList (e y).cells.toList o' off (by omega)]
      exact take_spl (cur.toList.drop o') (e y).cells.toList off (m * sz) hk (by rw [List.length_drop]; omega)
/-- a row or a variable of the call's own put into an element -/
theorem zSeo {t : TypeId} {ti : TI} {x y : Operand} {i j off n sz : Nat} {v u : Value} {e' : TypeId} {cs : List T} (hb : off + 1 ≤ cs.length) (h : K (.c (.lit undef)) (hp.set i (.row v e' sz n (cs.set off (.lit u))))) (hL : TabOk P L := by exact tok) (hx : ρ x = .eptr i v off := by exact rfl) (hi : hp[i]? = some (.row v e' sz n cs) := by exact rfl) (hy : ρ y = .own j u := by exact rfl) (ht : L.look t = some ti := by exact rfl) (hs : ti.size = 1 := by exact rfl) : LO P F ⟨d, .store t x y, ty, pos, aft, g⟩ ρ hp K :=
  lo_store_eG hL hx hi (us := [.lit u]) (by rw [hy]; exact shut_own) ht (by rw [hs]; rfl) (by rw [hs]; exact hb) h
/-- an append where the other blocks are not written out -/
theorem zApS {t el : TypeId} {ti te : TI} {x y : Operand} {i n m sz : Nat} {v : Value} {cs ts : List T} (h : ∀ v', K (.own i v') (hp.set i (.row v' el sz (n + m) (cs ++ ts)))) (hL : TabOk P L := by exact tok) (hx : ρ x = .own i v := by exact rfl) (hi : hp[i]? = some (.row v el sz n cs) := by exact rfl) (hy : ρ y = .c (.row m sz ts) := by exact rfl) (ht : L.look t = some ti := by exact rfl) (hd : ti.d = .slice el := by exact rfl) (hte : L.look el = some te := by exact rfl) (hsz : te.size = sz := by exact rfl)
    (h63 : n + m ≤ maxLen := by first | (simp only [maxLen]; omega) | (simp only [maxLen]; dsimp only at *; omega)) (hbytes : (n + m) * te.bytes ≤ 140737488355328 := by first | (simp only []; omega) | (dsimp only at *; omega)) : LO P F ⟨d, .call { callee := .builtin .append, args := #[x, y], argTypes := #[t, t] }, ty, pos, aft, g⟩ ρ hp K := lo_app hL hx hi hy ht hd hte hsz h63 hbytes h
/-- onto nil, where the other blocks are not written out -/
theorem zApN {t el : TypeId} {ti te : TI} {x y : Operand} {m sz : Nat} {ts : List T} (h : ∀ v', K (.own hp.length v') (hp ++ [.row v' el sz m ts])) (hL : TabOk P L := by exact tok) (hx : ρ x = .c (.lit (.slice none 0 0)) := by exact rfl) (hy : ρ y = .c (.row m sz ts) := by exact rfl) (ht : L.look t = some ti := by exact rfl) (hd : ti.d = .slice el := by exact rfl) (hte : L.look el = some te := by exact rfl) (hsz : te.size = sz := by exact rfl) (h0 : Nat.ble 1 sz = true := by exact rfl)
    (hbytes : m * te.bytes ≤ 140737488355328 := by first | (simp only []; omega) | (dsimp only at *; omega)) : LO P F ⟨d, .call { callee := .builtin .append, args := #[x, y], argTypes := #[t, t] }, ty, pos, aft, g⟩ ρ hp K := lo_app_nil hL hx hy ht hd hte hsz (Nat.le_of_ble_eq_true h0) hbytes h
theorem ra_c {M : Mm} {t : T} {u : Value} (h : RA M (.c t) u) : RT M t u := by simpa only [RA] using h
theorem ra_o {M : Mm} {j : Nat} {v u : Value} (h : RA M (.own j v) u) : RT M (.lit v) u := by simp only [RA, RT] at h ⊢; exact h.1
theorem ra_p {M : Mm} {j b off : Nat} {u : Value} (h : RA M (.ptr j b off) u) : RT M (.lit (.pointer (some ⟨b, off, none⟩))) u := by simp only [RA, RT] at h ⊢; exact h
/-- a literal slice, parts of the call's own asq values -/
theorem lo_bsliceR (hL : TabOk P L) {t el : TypeId} {ti te : TI} {n : Nat} {parts : List (Nat × Operand)} {cs : List AV} {ts : List T} (ht : L.look t = some ti) (hd : ti.d = .slice el) (hte : L.look el = some te) (h0 : Nat.ble 1 te.size = true) (hn : Nat.ble (n * te.size) 16777216 = true)
    (hf : fillA (fun i => some (i * te.size, te.size)) ((List.range (n * te.size)).map fun j => .c (.lit (te.zero.getD (j % te.size) undef))) (parts.map fun p => (p.1, ρ p.2)) = some cs) (hz : ∀ M us, RAs M cs us → RTs M ts us) (h : K (.c (.row n te.size ts)) hp) : LO P F ⟨d, .buildSlice t n parts.toArray, ty, pos, aft, g⟩ ρ hp K := by
  refine ⟨fun M e w he hh => ?_⟩
  obtain ⟨ys, hr, hy, hone, hl⟩ := lo_bslice0 (d := d) (ty := ty) (pos := pos) (aft := aft) (g := g) hL ht hd hte h0 hn hf (fun p hp => he p.2 (by simp only [Op.operands]; exact List.mem_map.2 ⟨p, by simpa using hp, rfl⟩)) (w := w)
  rw [hr]
  have hyt := hz _ _ hy
  have hb : Below w.heap.size w (w.alloc (.cells ys.toArray el)) := (Below.refl _ _).alloc (Nat.le_refl _) _
  have hm0 := hh.mem.below hb
  have hM := frz_ext (M := M) w.heap.size (w.alloc (.cells ys.toArray el))
  refine ⟨frz M w.heap.size (w.alloc (.cells ys.toArray el)), _, hp, h, (hM.low hh.frm.size), hh.below hb hM (frz_ok hm0 _), ?_⟩
  have h0' := Nat.le_of_ble_eq_true h0
  have hn' := Nat.le_of_ble_eq_true hn
  have hnm : n ≤ maxLen := by
    have : n ≤ n * te.size := Nat.le_mul_of_pos_right n h0'
    unfold maxLen; omega
  simp only [RA, RT]
  refine ⟨some ⟨w.heap.size, 0, none⟩, n, ys, rfl, Nat.le_refl _, hnm, h0', hl, fun h0n => ⟨_, rfl, fun j x hj => ?_⟩, RTs.mono (frz_sub _ _ _) _ _ hyt⟩
  rw [box_add]
  refine frz_new (mem_fresh hh.mem (by simp)) (by simp) ?_ (hone x (List.mem_of_getElem? hj))
  rw [cell_of_row _ w.heap.size (0 + j) _ _ _ (heap_alloc_new w _)]
  simpa using hj
end
theorem wk_frzqS {F : Frm} {τ : Nat → AV} {hp : List Blk} {N : Nat} (s : Nat) (ts : List T) {i j b off : Nat} {t : TypeId} {cs : List AV} (hs : τ s = .ptr j b off) (hi : hp[i]? = some (.box b t cs)) (hz : Rzs [] cs ts) (hN : Nat.blt s N = true) : Wk F ⟨τ, hp, N⟩ ⟨upd N s (.c (.pin ts off)) τ, hp.set i .dead, N⟩ := by
  intro M a w hr
  have h1 := heap_frzG hr.heap hi
  obtain ⟨xs, hh, hx, hone⟩ := hr.heap.at_ i _ hi
  have h2 : RT (frB M (Blk.box b t cs).blk w) (.pin ts off) (.pointer (some ⟨b, off, none⟩)) := by
    simp only [RT]
    refine ⟨⟨b, 0, none⟩, xs, by unfold Addr.add; split <;> simp_all, fun j x hj => ?_, RTs.mono (frB_sub _ _ _) _ _ (cls_sound cs ts xs hz hx)⟩
    have hadd : (⟨b, 0, none⟩ : Addr).add j = ⟨b, j, none⟩ := by unfold Addr.add; split <;> simp_all
    rw [hadd]
    have hn : M ⟨b, j, none⟩ = none := (hr.heap.out i _ b hi rfl).2 _ rfl
    have hc : w.cell? ⟨b, j, none⟩ = some x := by rw [cell_of_row _ b j _ _ _ hh]; simpa using hj
    simp [frB, hn, Blk.blk, hc, hone x (List.mem_of_getElem? hj)]
  refine ⟨_, fun k => ?_, hr.size, hr.defers, h1⟩
  simp only [upd]
  cases hc : Nat.beq k s with
  | false => simp only [Bool.false_and, cond_false]; exact RA.mono (frB_sub _ _ _) _ _ (hr.tmps k)
  | true =>
    have := Nat.eq_of_beq_eq_true hc
    subst this
    have h3 : RA M (τ k) (a.tmps.getD k undef) := hr.tmps k
    rw [hs] at h3
    simp only [RA] at h3
    rw [hN]
    simp only [Bool.and_self, cond_true, RA]
    rw [h3]; exact h2
/-- a variable at the head of the blocks becomes closed memory -/
theorem x_frz0 {F : Frm} {P : Program} {Q : Exit → AS → Prop} {c : Go.Code} {τ : Nat → AV} {hp : List Blk} {N : Nat} (s : Nat) (ts : List T) {i b off : Nat} {t : TypeId} {cs : List AV} (h : AC P F c Q ⟨upd N s (.c (.pin ts off)) τ, hp, N⟩) (hs : τ s = .ptr i b off := by exact rfl) (hz : Rzs [] cs ts := by repeat (first | exact rzs_nil | apply rzs_cons | exact rz_c | exact rz_nil rfl | apply rz_agg | exact rz_own rfl | apply rz_fn | exact rz_ptr rfl | apply rz_tup)) (hN : Nat.blt s N = true := by exact rfl) : AC P F c Q ⟨τ, .box b t cs :: hp, N⟩ := by
  refine ac_wk (wk_frzqS (i := 0) s ts hs rfl hz hN) ?_
  show AC P F c Q ⟨_, .dead :: hp, N⟩
  refine x_perm (hp' := hp ++ [Blk.dead]) (List.perm_append_comm (l₁ := [Blk.dead])) ?_
  refine ac_wk (wk_drop hp.length) ?_
  rw [show (hp ++ [Blk.dead]).take hp.length = hp from List.take_left]
  exact h
theorem erase_perm {α : Type} : ∀ {l : List α} {i : Nat} (h : i < l.length), l.Perm (l[i] :: l.eraseIdx i)
  | [], _, h => absurd h (Nat.not_lt_zero _)
  | _ :: _, 0, _ => List.Perm.refl _
  | a :: l, i + 1, h => by
    simp only [List.getElem_cons_succ, List.eraseIdx_cons_succ]
    exact ((erase_perm (l := l) (i := i) (by simpa using h)).cons a).trans (List.Perm.swap _ _ _)
theorem fam_out {α : Type} {f : α → Blk} {l : List α} {i : Nat} {a : α} (h : l[i]? = some a) : (l.map f).Perm (f a :: (l.eraseIdx i).map f) := by
  obtain ⟨h1, rfl⟩ := List.getElem?_eq_some_iff.1 h
  exact (erase_perm h1).map f
theorem fam_in {α : Type} {f : α → Blk} {l : List α} {i : Nat} (h : i < l.length) (a : α) : (f a :: (l.eraseIdx i).map f).Perm ((l.set i a).map f) := by
  have h1 : (l.set i a)[i]? = some a := by simp [h]
  have := fam_out (f := f) h1
  rw [List.eraseIdx_set_eq] at this
  exact this.symm
theorem fam_at {α : Type} (f : α → Blk) {l : List α} {i : Nat} {a : α} (h : l[i]? = some a) : (l.map f)[i]? = some (f a) := by rw [List.getElem?_map, h]; rfl
end Go.Proofs.Ytdogdjcjmhogmaa
namespace Go.Proofs.Ytdogdjcjmhogmaa
open Go.RowKit
section
variable {P : Program} {F : Frm} {L : Tab} {d : Option Tmp} {ty : TypeId} {pos : String} {aft : Array Edge} {g : Option (Nat × Bool)} {ρ : Operand → AV} {hp : List Blk} {K : AV → List Blk → Prop} {te : TI} {x y : Operand} {i b : Nat} {o : Option (List Nat × Nat)} {xT : TypeId}
/-- a walk over a map, where the other blocks are not written out -/
theorem zRgS (kT eT : TypeId) {es : List (Value × T)} (h : ∀ b' st c, st.length = es.length → K (.ptr hp.length b' 0) (hp.set i (.mpx b es (some (st, c))) ++ [.it b' b st c []])) (hu : isMap P xT = some (kT, eT) := by kernel_rfl) (hx : ρ x = .own i (.map (some b)) := by exact rfl) (hi : hp[i]? = some (.mp b es) := by exact rfl) : LO P F ⟨d, .range xT x, ty, pos, aft, g⟩ ρ hp K :=
  lo_range (isMap_eq hu) hx hi h
end
section
variable {P : Program} {F : Frm} {Q : Exit → AS → Prop} {τ : Nat → AV} {hp : List Blk} {N : Nat}
theorem x_unitS {c : Go.Code} (i : Nat) {b : Nat} {es : List (Value × T)} {o : Option (List Nat × Nat)} (hq : AC P F c Q ⟨τ, hp.set i (.mp b es), N⟩) (hi : hp[i]? = some (.mpx b es o) := by exact rfl) : AC P F c Q ⟨τ, hp, N⟩ := ac_wk (wk_unit i hi) hq
end
end Go.Proofs.Ytdogdjcjmhogmaa
namespace Go.Proofs.Ytdogdjcjmhogmaa
open Go.RowKit
/-- keys of a type, told by what they stand for: checked, found, kept -/
structure KeyR {α : Type} [DecidableEq α] (P : Program) (kT : TypeId) (κ : α → Value) : Prop where
  check : ∀ (em : Bool) (w : World) (a : α), (Instr.checkKey em 10000 kT (κ a)).run P w = .ok () w
  find : ∀ (w : World) (k : α) (l : List (α × T)) (es : List MapEntry), es.map (·.key) = l.map (fun p => κ p.1) →
    ((Instr.findKey kT (κ k) es).run P w = .ok none w ∧ mget k l = none ∧ (∀ t, mput k t l = l ++ [(k, t)]) ∧ mdel k l = l) ∨
    ∃ j e t, (Instr.findKey kT (κ k) es).run P w = .ok (some (j, e.val)) w ∧ es[j]? = some e ∧ l[j]? = some (k, t) ∧ mget k l = some t ∧ (∀ t', mput k t' l = l.set j (k, t')) ∧ mdel k l = l.eraseIdx j
  stays : ∀ (w : World) (a : α), (Instr.keyThatStays (κ a) (κ a)).run P w = .ok (κ a) w
theorem find_asking {α : Type} [DecidableEq α] {P : Program} {kT : TypeId} {κ : α → Value} (heq : ∀ (w : World) (a b : α), (Op.equal kT (κ a) (κ b)).run P w = .ok (decide (a = b)) w) (w : World) (k : α) : ∀ (l : List (α × T)) (es : List MapEntry) (i : Nat), es.map (·.key) = l.map (fun p => κ p.1) →
    ((Instr.findAsking kT (κ k) es i).run P w = .ok none w ∧ mget k l = none ∧ (∀ t, mput k t l = l ++ [(k, t)]) ∧ mdel k l = l) ∨
    ∃ j e t, (Instr.findAsking kT (κ k) es i).run P w = .ok (some (i + j, e.val)) w ∧ es[j]? = some e ∧ l[j]? = some (k, t) ∧ mget k l = some t ∧ (∀ t', mput k t' l = l.set j (k, t')) ∧ mdel k l = l.eraseIdx j
  | [], es, i, h => by
    obtain rfl : es = [] := by simpa using h
    exact .inl ⟨by simp [Instr.findAsking], rfl, fun _ => rfl, rfl⟩
  | (k', t') :: l, [], i, h => by simp at h
  | (k', t') :: l, e :: es, i, h => by
    simp only [List.map_cons, List.cons.injEq] at h
    have hr := heq w k k'
    rw [← h.1] at hr
    by_cases hk : k = k'
    · subst hk
      exact .inr ⟨0, e, t', by simp [Instr.findAsking, hr], rfl, rfl, by simp [mget], fun t => by simp [mput], by simp [mdel]⟩
    · simp only [hk, decide_false] at hr
      rcases find_asking heq w k l es (i + 1) h.2 with ⟨h1, h2, h3, h4⟩ | ⟨j, e', t, h1, h2, h3, h4, h5, h6⟩
      · exact .inl ⟨by simp [Instr.findAsking, hr, h1], by simp [mget, hk, h2], fun t => by simp [mput, hk, h3], by simp [mdel, hk, h4]⟩
      · exact .inr ⟨j + 1, e', t, by simp [Instr.findAsking, hr, h1, Nat.add_assoc, Nat.add_comm 1 j], by simpa using h2, by simpa using h3, by simp [mget, hk, h4], fun t => by simp [mput, hk, h5], by simp [mdel, hk, h6]⟩
theorem keyR_of {α : Type} [DecidableEq α] {P : Program} {kT : TypeId} {κ : α → Value} {dk : TypeDesc} (hu : P.underlying kT = some dk) (hn : ∀ a b, Instr.sameNow dk (κ a) (κ b) = none) (heq : ∀ (w : World) (a b : α), (Op.equal kT (κ a) (κ b)).run P w = .ok (decide (a = b)) w)
    (hc : ∀ (em : Bool) (w : World) (a : α), (Instr.checkKey em 10000 kT (κ a)).run P w = .ok () w) (hs : ∀ a : α, Instr.sameBits 10000 (κ a) (κ a) = true) : KeyR P kT κ := by
  refine ⟨hc, fun w k l es h => ?_, fun w a => ?_⟩
  · have hf : (Instr.findKey kT (κ k) es).run P w = (Instr.findAsking kT (κ k) es 0).run P w := by
      cases es with
      | nil => simp [Instr.findKey, run_underlying hu, Instr.findNow, Instr.findAsking]
      | cons e es =>
        cases l with
        | nil => simp at h
        | cons p l =>
          simp only [List.map_cons, List.cons.injEq] at h
          have := hn k p.1
          rw [← h.1] at this
          simp [Instr.findKey, run_underlying hu, Instr.findNow, this]
    rw [hf]
    rcases find_asking heq w k l es 0 h with h1 | ⟨j, e, t, h1, h2⟩
    · exact .inl h1
    · exact .inr ⟨j, e, t, by simpa using h1, h2⟩
  · unfold Instr.keyThatStays
    rw [if_pos (hs a)]
    rfl
def pairV {α : Type} (f : α → Value) (p : α × α) : Value := .agg #[f p.1, f p.2]
def isI64 (P : Program) (e : TypeId) : Bool := match P.underlying e with | some (.int .i64) => P.cellsOf e == 1 | _ => false
def isArr2 (P : Program) (t : TypeId) : Option TypeId := match P.underlying t with | some (.array 2 e) => some e | _ => none
/-- what a cell's type must bring -/
structure CellK {α : Type} [DecidableEq α] (P : Program) (e : TypeId) (f : α → Value) : Prop where
  plain : P.plainKey e = true
  cells : P.cellsOf e = 1
  eq : ∀ (d : Nat) (w : World) (a b : α), (Op.equalIn (d + 1) e (f a) (f b)).run P w = .ok (decide (a = b)) w
  ck : ∀ (em : Bool) (d : Nat) (w : World) (a : α), (Instr.checkKey em (d + 1) e (f a)).run P w = .ok () w
  bits : ∀ (d : Nat) (a : α), Instr.sameBits d (f a) (f a) = true
theorem cellI {P : Program} {e : TypeId} (h : isI64 P e = true) : CellK P e (Value.int .i64) := by
  unfold isI64 at h
  split at h
  · rename_i he
    have hc : P.cellsOf e = 1 := by simpa using h
    refine ⟨by simp [Program.plainKey, he], hc, fun d w a b => ?_, fun em d w a => ?_, fun d a => ?_⟩
    · simp only [Op.equalIn, Sem.run_bind, run_underlying he, Result.andThen_ok, if_true, Sem.run_pure]
      rfl
    · simp [Instr.checkKey, run_underlying he]
    · cases d <;> simp [Instr.sameBits]
  · cases h
theorem keyArr {α : Type} [DecidableEq α] {P : Program} {t e : TypeId} {f : α → Value} (h : isArr2 P t = some e) (c : CellK P e f) : KeyR P t (pairV f) := by
  have hu : P.underlying t = some (.array 2 e) := by
    unfold isArr2 at h
    split at h
    · rename_i e' he; injection h with h; rw [he, h]
    · cases h
  obtain ⟨i, hi⟩ : ∃ i, P.info? e = some i := by
    have := c.plain
    unfold Program.plainKey at this
    cases hue : P.underlying e with
    | none => simp [hue] at this
    | some _ => exact info_of_underlying hue
  refine keyR_of hu (fun a b => by rfl) (fun w a b => ?_) (fun em w a => ?_) (fun a => ?_)
  · have h1 := fun x y : α => run_part_plain (P := P) w c.plain (xs := #[f x, f y]) (off := 0) (v := f x) rfl
    have h2 := fun x y : α => run_part_plain (P := P) w c.plain (xs := #[f x, f y]) (off := 1) (v := f y) rfl
    show (Op.equalIn (9999 + 1) t (.agg #[f a.1, f a.2]) (.agg #[f b.1, f b.2])).run P w = _
    rw [run_equalIn_array w 9999 _ _ hu hi, c.cells]
    show (Op.eqItems 9999 e 1 _ _ [0, 1]).run P w = _
    simp only [Op.eqItems, Sem.run_bind, Nat.zero_mul, Nat.one_mul, h1, h2, Result.andThen_ok, c.eq 9998, Sem.run_pure]
    obtain ⟨a1, a2⟩ := a
    obtain ⟨b1, b2⟩ := b
    by_cases e1 : a1 = b1 <;> by_cases e2 : a2 = b2 <;> simp [e1, e2, h2, c.eq 9998]
  · have h1 := fun x y : α => run_part_plain (P := P) w c.plain (xs := #[f x, f y]) (off := 0) (v := f x) rfl
    have h2 := fun x y : α => run_part_plain (P := P) w c.plain (xs := #[f x, f y]) (off := 1) (v := f y) rfl
    have h3 : (sizeOf e).run P w = .ok 1 w := by rw [run_sizeOf w hi, c.cells]
    show (Instr.checkKey em (9999 + 1) t (.agg #[f a.1, f a.2])).run P w = _
    rw [Instr.checkKey]
    simp [run_underlying hu, h3, h1, h2, c.ck em 9998, Std.Legacy.Range.forIn_eq_forIn_range', List.range']
  · show Instr.sameBits (9999 + 1) (.agg #[f a.1, f a.2]) (.agg #[f a.1, f a.2]) = true
    simp [Instr.sameBits, c.bits]
section
variable {P : Program} {F : Frm} {L : Tab} {d : Option Tmp} {ty : TypeId} {pos : String} {aft : Array Edge} {g : Option (Nat × Bool)} {ρ : Operand → AV} {hp : List Blk} {K : AV → List Blk → Prop}
variable {α : Type} [DecidableEq α] {κ : α → Value} {xT kT eT : TypeId} {x y z : Operand} {i b : Nat} {l : List (α × T)} {k : α} {te : TI} {z0 : Value} {o : Option (List Nat × Nat)}
theorem lo_lookup_r (hκ : KeyR P kT κ) (hL : TabOk P L) (hu : P.underlying xT = some (.map kT eT)) (hte : L.look eT = some te) (hz : te.zero = [z0]) (ha : te.agg = false) (hx : ρ x = .own i (.map (some b))) (hi : hp[i]? = some (.mpx b (mkeys κ l) o)) (hy : ∀ M u, RA M (ρ y) u → u = κ k)
    (h : K (.c ((mget k l).getD (.lit z0))) hp) : LO P F ⟨d, .lookup xT x y false, ty, pos, aft, g⟩ ρ hp K := by
  refine LO.same (fun M e w he hh => ?_) h
  have h1 := he x (by first | (simp [Op.operands]; done) | simp [Op.operands, Call.operands])
  rw [hx] at h1
  simp only [RA] at h1
  have h2 := hy M _ (he y (by first | (simp [Op.operands]; done) | simp [Op.operands, Call.operands]))
  obtain ⟨es, clock, hb, hkeys, hvals, hstm, hst⟩ := hh.at_ i _ hi
  have hkeys' : es.map (·.key) = l.map (fun p => κ p.1) := by rw [hkeys]; simp [mkeys]
  have hvals' : RTs M (l.map (·.2)) (es.map (·.val)) := by simpa [mkeys, Function.comp_def] using hvals
  rcases hκ.find w k l es hkeys' with ⟨f1, f2, _⟩ | ⟨j, e', t, f1, f2, f3, f4, _⟩
  · obtain ⟨inf, zv, g1, _, _, g2, g3, g4, g5⟩ := hL.info hte
    have hzv : zv = z0 := by
      rw [ha] at g5
      rw [hz] at g3
      cases zv <;> simp_all [Value.cells]
    have hzr : (zeroValue eT).run P w = .ok z0 w := by simp [zeroValue, typeInfo, g1, g2, hzv]
    refine ⟨z0, ?_, by rw [f2]; simp only [Option.getD_none, RA, RT]⟩
    simp [execOp, Instr.lookup, h1.1, h2, run_underlying hu, MapKept.run_getObj_map hb, hκ.check, f1, hzr]
  · obtain ⟨u, hu1, hu2⟩ := hvals'.get (j := j) (t := t) (by rw [List.getElem?_map, f3]; rfl)
    rw [List.getElem?_map, f2] at hu1
    obtain rfl : e'.val = u := by simpa using hu1
    refine ⟨e'.val, ?_, by rw [f4]; simpa only [Option.getD_some, RA] using hu2⟩
    simp [execOp, Instr.lookup, h1.1, h2, run_underlying hu, MapKept.run_getObj_map hb, hκ.check, f1]
theorem lo_mapUpdate_r (hκ : KeyR P kT κ) {t : T} (hu : P.underlying xT = some (.map kT eT)) (hx : ρ x = .own i (.map (some b))) (hi : hp[i]? = some (.mpx b (mkeys κ l) o)) (hy : ∀ M u, RA M (ρ y) u → u = κ k) (hz : ∀ M u, RA M (ρ z) u → RT M t u)
    (ho : o = none ∨ (mget k l).isSome = true) (h : K (.c (.lit undef)) (hp.set i (.mpx b (mkeys κ (mput k t l)) o))) : LO P F ⟨d, .mapUpdate xT x y z, ty, pos, aft, g⟩ ρ hp K := by
  refine ⟨fun M e w he hh => ?_⟩
  have h1 := he x (by first | (simp [Op.operands]; done) | simp [Op.operands, Call.operands])
  rw [hx] at h1
  simp only [RA] at h1
  have h2 := hy M _ (he y (by first | (simp [Op.operands]; done) | simp [Op.operands, Call.operands]))
  have h3 := hz M _ (he z (by first | (simp [Op.operands]; done) | simp [Op.operands, Call.operands]))
  obtain ⟨es, clock, hb, hkeys, hvals, hstm, hst⟩ := hh.at_ i _ hi
  have hkeys' : es.map (·.key) = l.map (fun p => κ p.1) := by rw [hkeys]; simp [mkeys]
  have hvals' : RTs M (l.map (·.2)) (es.map (·.val)) := by simpa [mkeys, Function.comp_def] using hvals
  have hlt : b < w.heap.size := (Array.getElem?_eq_some_iff.1 hb).1
  have hil : i < hp.length := (List.getElem?_eq_some_iff.1 hi).1
  obtain ⟨es', clock', hrun, hke, hva, hsm⟩ : ∃ (es' : List MapEntry) (clock' : Nat), (execOp e ⟨d, .mapUpdate xT x y z, ty, pos, aft, g⟩).run P w = .ok .skip { w with heap := w.heap.setIfInBounds b (.map es'.toArray clock') } ∧ es'.map (·.key) = (mkeys κ (mput k t l)).map (·.1) ∧ RTs M ((mkeys κ (mput k t l)).map (·.2)) (es'.map (·.val)) ∧ Stm es' clock' ∧ ∀ s ∈ o, s = (es'.map (·.born), clock') := by
    rcases hκ.find w k l es hkeys' with ⟨f1, f2, f3, _⟩ | ⟨j, e', t', f1, f2, f3, f4, f5, _⟩
    · refine ⟨es ++ [⟨κ k, e z, clock⟩], clock + 1, ?_, ?_, ?_, ⟨?_, ?_⟩, ?_⟩
      · simp [execOp, Instr.mapUpdate, h1.1, h2, run_underlying hu, MapKept.run_getObj_map hb, hκ.check, f1, MapKept.run_setObj_map _ hb]
      · rw [f3]; simp [mkeys, hkeys']
      · rw [f3]
        have : RTs M (l.map (·.2) ++ [t]) (es.map (·.val) ++ [e z]) := hvals'.app (by simp only [RTs]; exact ⟨_, _, rfl, h3, rfl⟩)
        simpa [mkeys, Function.comp_def] using this
      · rw [List.map_append, List.nodup_append]
        refine ⟨hstm.1, by simp, fun a ha b hb => ?_⟩
        obtain ⟨x, hx, rfl⟩ := List.mem_map.1 ha
        have := hstm.2 x hx
        simp only [List.map_cons, List.map_nil, List.mem_singleton] at hb
        omega
      · intro x hx
        rcases List.mem_append.1 hx with hx | hx
        · have := hstm.2 x hx; omega
        · rw [List.mem_singleton.1 hx]; simp only; omega
      · rcases ho with rfl | ho
        · intro s hs; cases hs
        · rw [f2] at ho; cases ho
    · have hek : e'.key = κ k := by
        have := congrArg (fun l => l[j]?) hkeys'
        simp only [List.getElem?_map, f2, f3, Option.map_some, Option.some.injEq] at this
        exact this
      have hjl : j < es.length := (List.getElem?_eq_some_iff.1 f2).1
      have hbo : (es.set j ⟨κ k, e z, e'.born⟩).map (·.born) = es.map (·.born) := by
        obtain ⟨hj1, hj2⟩ := List.getElem?_eq_some_iff.1 f2
        rw [List.map_set, show e'.born = (es.map (·.born))[j]'(by simpa using hj1) by rw [List.getElem_map, hj2]]
        exact List.set_getElem_self _
      refine ⟨es.set j ⟨κ k, e z, e'.born⟩, clock, ?_, ?_, ?_, ⟨by rw [hbo]; exact hstm.1, ?_⟩, by rw [hbo]; exact hst⟩
      · have hm := set_modify es j (fun q => { q with key := κ k, val := e z }) f2
        have hge : es[j]? = some e' := f2
        simp [execOp, Instr.mapUpdate, h1.1, h2, run_underlying hu, MapKept.run_getObj_map hb, hκ.check, f1, hge, hek, hκ.stays, MapKept.run_setObj_map _ hb, hm]
      · rw [f5]
        simp only [mkeys, List.map_set, List.map_map]
        rw [hkeys']
        rfl
      · rw [f5]
        have := RTs.set j hvals' h3
        simpa [mkeys, Function.comp_def, List.map_set] using this
      · intro x hx
        have hx2 : x.born ∈ es.map (·.born) := by rw [← hbo]; exact List.mem_map.2 ⟨x, hx, rfl⟩
        obtain ⟨y, hy, hyx⟩ := List.mem_map.1 hx2
        have := hstm.2 y hy
        omega
  rw [hrun]
  refine ⟨M, _, _, h, Ext.refl _ _, ?_, by simp only [RA, RT]⟩
  refine hh.step i rfl rfl rfl (by simp) (fun c hc hne => ?_) (Ext.refl _ _) (fun p v h1 h2 => by rw [h2] at h1; cases h1) (fun j hj => by rw [List.getElem?_set_ne (Ne.symm hj)]) (fun x' hx' => ?_)
  · have : c ≠ b := fun e => hne _ hi (by rw [e]; rfl)
    simp [Array.getElem?_setIfInBounds, Ne.symm this]
  · rw [List.getElem?_set_self hil] at hx'
    obtain rfl : Blk.mpx b (mkeys κ (mput k t l)) o = x' := by injection hx'
    exact ⟨⟨es', clock', by simp [Array.getElem?_setIfInBounds, hlt], hke, hva, hsm⟩, fun b' hb' => .inl ⟨_, hi, hb'⟩⟩
end
theorem kv_c {α : Type} {M : Mm} {f : α → Value} {p : α × α} {u : Value} (h : RA M (.c (.agg [.lit (f p.1), .lit (f p.2)])) u) : u = pairV f p := by
  simp only [RA, RT, RTs] at h
  obtain ⟨xs, rfl, _, _, rfl, rfl, _, _, rfl, rfl, rfl⟩ := h
  rfl
theorem kv_a {α : Type} {M : Mm} {f : α → Value} {p : α × α} {u : Value} (h : RA M (.agg [.c (.lit (f p.1)), .c (.lit (f p.2))]) u) : u = pairV f p := by
  simp only [RA, RAs, RT] at h
  obtain ⟨xs, rfl, _, _, rfl, rfl, _, _, rfl, rfl, rfl⟩ := h
  rfl
theorem kv_l {M : Mm} {v u : Value} (h : RA M (.c (.lit v)) u) : u = v := by simpa only [RA, RT] using h
section
variable {P : Program} {F : Frm} {L : Tab} {d : Option Tmp} {ty : TypeId} {pos : String} {aft : Array Edge} {g : Option (Nat × Bool)} {ρ : Operand → AV} {hp : List Blk} {K : AV → List Blk → Prop} {te : TI} {x y : Operand} {i b : Nat} {o : Option (List Nat × Nat)} {xT kT : TypeId} {α : Type} [DecidableEq α] {κ : α → Value} {l l' : List (α × T)}
/-- looked up: a cell -/
theorem zLkr (eT : TypeId) (hκ : KeyR P kT κ) (k : α) {t : T} {z0 : Value} (ht : (mget k l).getD (.lit z0) = t) (h : K (.c t) hp) (hu : isMap P xT = some (kT, eT) := by kernel_rfl) (hL : TabOk P L := by exact tok) (hte : L.look eT = some te := by exact rfl) (hz : te.zero = [z0] := by exact rfl) (ha : te.agg = false := by exact rfl) (hx : ρ x = .own i (.map (some b)) := by exact rfl) (hi : hp[i]? = some (.mpx b (mkeys κ l) o) := by exact rfl) (hy : ∀ M u, RA M (ρ y) u → u = κ k := by intro M u h; first | exact kv_a h | exact kv_c h | exact kv_l h) :
    LO P F ⟨d, .lookup xT x y false, ty, pos, aft, g⟩ ρ hp K := lo_lookup_r hκ hL (isMap_eq hu) hte hz ha hx hi hy (by rw [ht]; exact h)
theorem zUprS (eT : TypeId) (hκ : KeyR P kT κ) (k : α) {z : Operand} {t : T} (hl : mput k t l = l') (h : K (.c (.lit undef)) (hp.set i (.mp b (mkeys κ l')))) (hu : isMap P xT = some (kT, eT) := by kernel_rfl) (hx : ρ x = .own i (.map (some b)) := by exact rfl) (hi : hp[i]? = some (.mp b (mkeys κ l)) := by exact rfl) (hy : ∀ M u, RA M (ρ y) u → u = κ k := by intro M u h; first | exact kv_a h | exact kv_c h | exact kv_l h) (hz : Re (ρ z) (.c t) := by first | exact re_refl | exact re_ol | exact re_pl) :
    LO P F ⟨d, .mapUpdate xT x y z, ty, pos, aft, g⟩ ρ hp K := lo_mapUpdate_r hκ (isMap_eq hu) hx hi hy (fun M u h => by have := hz M u h; simpa only [RA] using this) (.inl rfl) (by rw [hl]; exact h)
end
end Go.Proofs.Ytdogdjcjmhogmaa
namespace Go.Proofs.Ytdogdjcjmhogmaa
open Go.RowKit
section
variable {P : Program} {F : Frm} {L : Tab} {d : Option Tmp} {ty : TypeId} {pos : String} {aft : Array Edge} {g : Option (Nat × Bool)} {ρ : Operand → AV} {hp : List Blk} {K : AV → List Blk → Prop}
variable {α : Type} [DecidableEq α] {κ : α → Value} {xT kT eT : TypeId} {x y z : Operand} {i b : Nat} {l : List (α × T)} {k : α} {te : TI}
theorem mget_snoc {k : α} {t : T} : ∀ {l : List (α × T)}, mget k l = none → mget k (l ++ [(k, t)]) = some t
  | [], _ => by simp [mget]
  | (k', t') :: l, h => by
    unfold mget at h
    show mget k ((k', t') :: (l ++ [(k, t)])) = _
    unfold mget
    by_cases hk : k = k'
    · rw [if_pos hk] at h; cases h
    · rw [if_neg hk] at h ⊢
      exact mget_snoc h
/-- the value that a new entry has -/
def ZeroT (te : TI) (zt : T) : Prop := (te.agg = true ∧ zt = .agg (te.zero.map fun v => T.lit v)) ∨ (te.agg = false ∧ ∃ z0, te.zero = [z0] ∧ zt = .lit z0)
omit [DecidableEq α] in
theorem lo_entryStore_r {l1 : List (α × T)} {j c : Nat} {st : List Nat} {v t : T} (hx : ρ x = .own i (.map (some b))) (hi : hp[i]? = some (.mpx b (mkeys κ l1) (some (st, c)))) (hy : ρ y = .c (.lit (.int .i64 ((st.getD j 0 : Nat) : Int)))) (hj : l1[j]? = some (k, v)) (hjs : j < st.length) (hz : ∀ M u, RA M (ρ z) u → RT M t u)
    (h : K (.c (.lit undef)) (hp.set i (.mp b (mkeys κ (l1.set j (k, t)))))) : LO P F ⟨d, .entryStore xT x y z, ty, pos, aft, g⟩ ρ hp K := by
  refine ⟨fun M e w he hh => ?_⟩
  have h1 := he x (by first | (simp [Op.operands]; done) | simp [Op.operands, Call.operands])
  rw [hx] at h1
  simp only [RA] at h1
  have h2 := he y (by first | (simp [Op.operands]; done) | simp [Op.operands, Call.operands])
  rw [hy] at h2
  simp only [RA, RT] at h2
  have h3 := hz M _ (he z (by first | (simp [Op.operands]; done) | simp [Op.operands, Call.operands]))
  obtain ⟨es, clock, hb, hkeys, hvals, hstm, hst⟩ := hh.at_ i _ hi
  have hst' := hst _ rfl
  injection hst' with hs1 hs2
  have hkeys' : es.map (·.key) = l1.map (fun p => κ p.1) := by rw [hkeys]; simp [mkeys]
  have hvals' : RTs M (l1.map (·.2)) (es.map (·.val)) := by simpa [mkeys, Function.comp_def] using hvals
  have hlt : b < w.heap.size := (Array.getElem?_eq_some_iff.1 hb).1
  have hil : i < hp.length := (List.getElem?_eq_some_iff.1 hi).1
  have hjl : j < es.length := by rw [hs1] at hjs; simpa using hjs
  obtain ⟨e', he'⟩ : ∃ e', es[j]? = some e' := ⟨_, List.getElem?_eq_getElem hjl⟩
  have hg : st.getD j 0 = e'.born := by rw [hs1]; simp [List.getD, he']
  rw [hg] at h2
  have hidx := Go.WideElems.findIdx_born hstm.1 he'
  have hm := set_modify es j (fun q => { q with val := e z }) he'
  have hrun : (execOp e ⟨d, .entryStore xT x y z, ty, pos, aft, g⟩).run P w = .ok .skip { w with heap := w.heap.setIfInBounds b (.map (es.set j { e' with val := e z }).toArray clock) } := by
    simp [execOp, Instr.entryStore, h1.1, h2, MapKept.run_getObj_map hb, asInt, asIntOf, hidx, MapKept.run_setObj_map _ hb, hm]
  rw [hrun]
  have hbo : (es.set j { e' with val := e z }).map (·.born) = es.map (·.born) := by
    obtain ⟨hj1, hj2⟩ := List.getElem?_eq_some_iff.1 he'
    rw [List.map_set, show e'.born = (es.map (·.born))[j]'(by simpa using hj1) by rw [List.getElem_map, hj2]]
    exact List.set_getElem_self _
  refine ⟨M, _, _, h, Ext.refl _ _, ?_, by simp only [RA, RT]⟩
  refine hh.step i rfl rfl rfl (by simp) (fun c hc hne => ?_) (Ext.refl _ _) (fun p v h1 h2 => by rw [h2] at h1; cases h1) (fun j hj => by rw [List.getElem?_set_ne (Ne.symm hj)]) (fun x' hx' => ?_)
  · have : c ≠ b := fun e => hne _ hi (by rw [e]; rfl)
    simp [Array.getElem?_setIfInBounds, Ne.symm this]
  · rw [List.getElem?_set_self hil] at hx'
    obtain rfl : Blk.mp b (mkeys κ (l1.set j (k, t))) = x' := by injection hx'
    refine ⟨⟨es.set j { e' with val := e z }, clock, by simp [Array.getElem?_setIfInBounds, hlt], ?_, ?_, ⟨by rw [hbo]; exact hstm.1, fun q hq => ?_⟩, fun s hs => by cases hs⟩, fun b' hb' => .inl ⟨_, hi, hb'⟩⟩
    · have hek : e'.key = κ k := by
        have := congrArg (fun l => l[j]?) hkeys'
        simp only [List.getElem?_map, he', hj, Option.map_some, Option.some.injEq] at this
        exact this
      simp only [mkeys, List.map_set, List.map_map]
      rw [hkeys', hek]
      rfl
    · have := RTs.set j hvals' h3
      simpa [mkeys, Function.comp_def, List.map_set] using this
    · have hx2 : q.born ∈ es.map (·.born) := by rw [← hbo]; exact List.mem_map.2 ⟨q, hq, rfl⟩
      obtain ⟨y, hy, hyx⟩ := List.mem_map.1 hx2
      have := hstm.2 y hy
      omega
end
end Go.Proofs.Ytdogdjcjmhogmaa
namespace Go.Proofs.Ytdogdjcjmhogmaa
open Go.RowKit
/-- what goes between nodes: a letter (0), an actor (1), where an actor is (2) -/
structure El where
  kind : Int
  who : Int
  src : Int
  seq : Int
  n : Int
  node : Int
  turn : Int
structure Zt where
  at_ : List Int
  bel : Int → Int → Int × Int
  nxt : Int → Int → Int
  sto : Int → Int → List (Int × Int)
  seqs : List ((Int × Int) × Int)
  ways : List ((Int × Int) × List El)
  wait : List (List El)
  got : List (List (Int × Int))
def turned (i : Int) (x : El) (Z : Zt) : Bool := decide ((Z.bel i x.who).2 < x.turn)
def isN (nd : Int) (i : Int) : Prop := 1 ≤ i ∧ i ≤ nd
def isW (nA : Nat) (w : Int) : Prop := 0 ≤ w ∧ w < nA
instance (nd i : Int) : Decidable (isN nd i) := inferInstanceAs (Decidable (_ ∧ _))
instance (nA : Nat) (w : Int) : Decidable (isW nA w) := inferInstanceAs (Decidable (_ ∧ _))
def sumL {α : Type} (l : List (List α)) : Nat := (l.map List.length).sum
def sumW (W : List ((Int × Int) × List El)) : Nat := (W.map fun p => p.2.length).sum
structure ElOk (nA nd : Nat) (t : Nat) (x : El) : Prop where
  kind : 0 ≤ x.kind ∧ x.kind ≤ 2
  who : isW nA x.who
  src : x.kind = 0 → isN nd x.src
  node : x.kind ≠ 0 → isN nd x.node
  turn : 0 ≤ x.turn ∧ x.turn ≤ t
structure ZOk (nA nd : Nat) (t cw cy cs cg : Nat) (Z : Zt) : Prop where
  alen : Z.at_.length = nA
  at_ : ∀ a ∈ Z.at_, 0 ≤ a ∧ a ≤ nd
  glen : Z.got.length = nA
  wlen : Z.wait.length = nd + 1
  bel : ∀ i w, isN nd i → isW nA w → isN nd (Z.bel i w).1 ∧ 0 ≤ (Z.bel i w).2 ∧ (Z.bel i w).2 ≤ t
  seqs : ∀ p ∈ Z.seqs, 0 ≤ p.2 ∧ p.2 ≤ t
  ways : ∀ p ∈ Z.ways, isN nd p.1.1 ∧ isN nd p.1.2 ∧ ∀ x ∈ p.2, ElOk nA nd t x
  wait : ∀ l ∈ Z.wait, ∀ x ∈ l, ElOk nA nd t x ∧ x.kind = 0
  waitn : sumL Z.wait ≤ cw
  waysn : sumW Z.ways ≤ cy
  sto : ∀ i w, (Z.sto i w).length ≤ cs
  got : ∀ l ∈ Z.got, l.length ≤ cg
  nxt : ∀ i w, 0 ≤ Z.nxt i w ∧ Z.nxt i w ≤ cg
theorem ElOk.mono {nA nd t t' : Nat} {x : El} (h : ElOk nA nd t x) (ht : t ≤ t') : ElOk nA nd t' x := ⟨h.kind, h.who, h.src, h.node, h.turn.1, by have := h.turn.2; omega⟩
theorem ZOk.mono {nA nd t cw cy cs cg t' cw' cy' cs' cg' : Nat} {Z : Zt} (h : ZOk nA nd t cw cy cs cg Z) (h1 : t ≤ t') (h2 : cw ≤ cw') (h3 : cy ≤ cy') (h4 : cs ≤ cs') (h5 : cg ≤ cg') : ZOk nA nd t' cw' cy' cs' cg' Z :=
  ⟨h.alen, h.at_, h.glen, h.wlen, fun i w hi hw => let ⟨a, b, c⟩ := h.bel i w hi hw; ⟨a, b, by omega⟩, fun p hp => let ⟨a, b⟩ := h.seqs p hp; ⟨a, by omega⟩, fun p hp => let ⟨a, b, c⟩ := h.ways p hp; ⟨a, b, fun x hx => (c x hx).mono h1⟩, fun l hl x hx => let ⟨a, b⟩ := h.wait l hl x hx; ⟨a.mono h1, b⟩, by have := h.waitn; omega, by have := h.waysn; omega, fun i w => by have := h.sto i w; omega, fun l hl => by have := h.got l hl; omega, fun i w => by have := h.nxt i w; omega⟩
theorem gput_all {α β : Type} [DecidableEq α] {k : α} {b : β} {p : α × β} : ∀ {l : List (α × β)}, p ∈ gput k b l → p = (k, b) ∨ p ∈ l
  | [], h => by simp only [gput, List.mem_singleton] at h; exact .inl h
  | (k', b') :: l, h => by
    unfold gput at h
    split at h
    · rcases List.mem_cons.1 h with h | h
      · exact .inl h
      · exact .inr (List.mem_cons_of_mem _ h)
    · rcases List.mem_cons.1 h with h | h
      · exact .inr (h ▸ List.mem_cons_self)
      · rcases gput_all h with h | h
        · exact .inl h
        · exact .inr (List.mem_cons_of_mem _ h)
theorem gget_in {α β : Type} [DecidableEq α] {k : α} {b : β} : ∀ {l : List (α × β)}, gget k l = some b → (k, b) ∈ l
  | [], h => by simp [gget] at h
  | (k', b') :: l, h => by
    unfold gget at h
    split at h
    · rename_i hk; cases h; subst hk; exact List.mem_cons_self
    · exact List.mem_cons_of_mem _ (gget_in h)
end Go.Proofs.Ytdogdjcjmhogmaa
namespace Go.Proofs.Ytdogdjcjmhogmaa
open Go.RowKit
section
variable {nA nd t cw cy cs cg : Nat} {Z : Zt} {i : Int} {x : El}
theorem getD_mem {α : Type} {l : List α} {j : Nat} {d : α} (h : j < l.length) : l.getD j d ∈ l := by
  rw [List.getD_eq_getElem?_getD, List.getElem?_eq_getElem h]
  exact List.getElem_mem h
end
end Go.Proofs.Ytdogdjcjmhogmaa
namespace Go.Proofs.Ytdogdjcjmhogmaa
open Go.RowKit
def intTs (i : Int) : List T := [.lit (.int .i64 i)]
def intRow (l : List Int) : T := .row l.length 1 (l.flatMap intTs)
theorem int_at {l : List Int} {k : Nat} {i : Int} (h : l[k]? = some i) : (l.flatMap intTs)[k * 1]? = some (.lit (.int .i64 i)) := flat_get intTs 1 (fun _ => rfl) h (j := 0) (by omega)
end Go.Proofs.Ytdogdjcjmhogmaa
