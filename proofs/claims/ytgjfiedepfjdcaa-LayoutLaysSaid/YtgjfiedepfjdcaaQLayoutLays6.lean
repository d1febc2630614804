/-
  Texts of this proof, part 6: Ab47 Ab48 Ab49 Jsb Jla Jlb Tab Jsc Jsd Jse.
-/
import Derived.Test.YtgjfiedepfjdcaaQLayoutLays5
import Derived.Laws.Externs
import Derived.Laws.IdiomRangeMap
import Derived.Laws.Strings2
import Derived.Lib.Builder
import Derived.Lib.Bytealg
import Derived.Lib.UnsafeStr
import Derived.Test.YtgjfiedepfjdcaaProg
import Derived.WideKeyEntry
import Derived.WideLaws
namespace Go.Proofs.Ytgjfiedepfjdcaa
open Go.RowKit
def Dj (x y : Blk) : Prop := ∀ b, x.blk = some b → y.blk ≠ some b
theorem Dj.symm {x y : Blk} (h : Dj x y) : Dj y x := fun b h1 h2 => h b h2 h1
structure HpOk (F : Frm) (M : Mm) (hp : List Blk) (w : World) : Prop where
  mem : MemOk M w
  ext : Ext F.may F.M0 M
  frm : Keeps F w
  at_ : ∀ x ∈ hp, BlkOk M w x
  sep : hp.Pairwise Dj
  out : ∀ x ∈ hp, ∀ b, x.blk = some b → F.may b ∧ ∀ p : Addr, p.block = b → M p = none
section
variable {F : Frm} {M : Mm} {hp hp' : List Blk} {w : World}
theorem HeapOk.all (h : HeapOk F M hp w) : HpOk F M hp w := by
  refine ⟨h.mem, h.ext, h.frm, fun x hx => ?_, ?_, fun x hx b hb => ?_⟩
  · obtain ⟨i, hi⟩ := List.getElem?_of_mem hx
    exact h.at_ i x hi
  · rw [List.pairwise_iff_getElem]
    intro i j hi hj hij b h1 h2
    have := h.sep i j _ _ b (List.getElem?_eq_getElem hi) (List.getElem?_eq_getElem hj) h1 h2
    omega
  · obtain ⟨i, hi⟩ := List.getElem?_of_mem hx
    exact h.out i x b hi hb
theorem HpOk.heap (h : HpOk F M hp w) : HeapOk F M hp w := by
  have hs := List.pairwise_iff_getElem.1 h.sep
  refine ⟨h.mem, h.ext, h.frm, fun i x hi => h.at_ x (List.mem_of_getElem? hi), fun i j x y b hi hj hx hy => ?_, fun i x b hi hb => h.out x (List.mem_of_getElem? hi) b hb⟩
  obtain ⟨hi', rfl⟩ := List.getElem?_eq_some_iff.1 hi
  obtain ⟨hj', rfl⟩ := List.getElem?_eq_some_iff.1 hj
  rcases Nat.lt_trichotomy i j with hlt | rfl | hlt
  · exact absurd hy (hs i j hi' hj' hlt b hx)
  · rfl
  · exact absurd hx (hs j i hj' hi' hlt b hy)
theorem HeapOk.perm (h : HeapOk F M hp w) (hq : hp.Perm hp') : HeapOk F M hp' w :=
  let h := h.all
  HpOk.heap ⟨h.mem, h.ext, h.frm, fun x hx => h.at_ x (hq.mem_iff.2 hx), (hq.pairwise_iff (fun h => Dj.symm h)).1 h.sep, fun x hx => h.out x (hq.mem_iff.2 hx)⟩
theorem wk_perm {τ : Nat → AV} {N : Nat} (hq : hp.Perm hp') : Wk F ⟨τ, hp, N⟩ ⟨τ, hp', N⟩ := fun M _ _ hr => ⟨M, hr.tmps, hr.size, hr.defers, hr.heap.perm hq⟩
theorem sub_gx2 {A B : List Blk} (h : HeapOk F M (A ++ B) w) : ∀ x ∈ globTab, ¬ ∃ (i : Nat) (y : Blk), A[i]? = some y ∧ y.blk = some x.1 := by
  rintro x hx ⟨i, y, h1, h2⟩
  have hl := glob_lt F.G hx
  rcases (h.all.out y (List.mem_append_left _ (List.mem_of_getElem? h1)) x.1 h2).1 with h4 | h4
  · exact F.GX x hx h4
  · omega
theorem HeapOk.part {A B : List Blk} (h : HeapOk F M (A ++ B) w) : HeapOk (subF M A w h.glob (sub_gx2 h)) M A w := by
  have hq := h.all
  refine HpOk.heap ⟨h.mem, Ext.refl _ _, ⟨rfl, rfl, rfl, Nat.le_refl _, fun _ _ _ => rfl⟩, fun x hx => hq.at_ x (List.mem_append_left _ hx), (List.pairwise_append.1 hq.sep).1, fun x hx b hb => ?_⟩
  obtain ⟨i, hi⟩ := List.getElem?_of_mem hx
  exact ⟨.inl ⟨i, x, hi, hb⟩, (hq.out x (List.mem_append_left _ hx) b hb).2⟩
theorem part_may {A B : List Blk} (h : HeapOk F M (A ++ B) w) (b : Nat) (hb : (subF M A w h.glob (sub_gx2 h)).may b) : F.may b := by
  rcases hb with ⟨i, x, hx, hxb⟩ | hb
  · exact (h.all.out x (List.mem_append_left _ (List.mem_of_getElem? hx)) b hxb).1
  · exact .inr (Nat.le_trans h.frm.size hb)
theorem HeapOk.join {A B A' : List Blk} {M' : Mm} {w' : World} (h : HeapOk F M (A ++ B) w) (h2 : HeapOk (subF M A w h.glob (sub_gx2 h)) M' A' w') : HeapOk F M' (A' ++ B) w' := by
  have hq := h.all
  have hq2 := h2.all
  have hM : Ext (subF M A w h.glob (sub_gx2 h)).may M M' := h2.ext
  have hX : ∀ b, (subF M A w h.glob (sub_gx2 h)).X b → ∃ x ∈ A, x.blk = some b := by
    rintro b ⟨i, x, hx, hb⟩
    exact ⟨x, List.mem_of_getElem? hx, hb⟩
  have hsep := List.pairwise_append.1 hq.sep
  have hold : ∀ x ∈ B, ∀ b, x.blk = some b → b < w.heap.size ∧ ¬ (subF M A w h.glob (sub_gx2 h)).X b := by
    intro x hx b hb
    refine ⟨(hq.at_ x (List.mem_append_right _ hx)).lt hb, fun hXb => ?_⟩
    obtain ⟨y, hy, hyb⟩ := hX b hXb
    exact hsep.2.2 y hy x hx b hyb hb
  refine HpOk.heap ⟨h2.mem, h.ext.trans (hM.to (part_may h)), ⟨h2.frm.os.trans h.frm.os, h2.frm.tape.trans h.frm.tape, h2.frm.output.trans h.frm.output, Nat.le_trans h.frm.size h2.frm.size, fun b hb hnX => ?_⟩, fun x hx => ?_, List.pairwise_append.2 ⟨hq2.sep, hsep.2.1, fun x hx y hy b hxb hyb => ?_⟩, fun x hx b hxb => ?_⟩
  · refine (h2.frm.block b (Nat.lt_of_lt_of_le hb h.frm.size) fun hXb => ?_).trans (h.frm.block b hb hnX)
    obtain ⟨y, hy, hyb⟩ := hX b hXb
    rcases (hq.out y (List.mem_append_left _ hy) b hyb).1 with h3 | h3
    · exact hnX h3
    · omega
  · rcases List.mem_append.1 hx with hx | hx
    · exact hq2.at_ x hx
    · exact (hq.at_ x (List.mem_append_right _ hx)).keep hM.sub fun b hb hlt => h2.frm.block b hlt (hold x hx b hb).2
  · obtain ⟨h3, h4⟩ := hold y hy b hyb
    rcases (hq2.out x hx b hxb).1 with h5 | h5
    · exact h4 h5
    · have : w.heap.size ≤ b := h5
      omega
  · rcases List.mem_append.1 hx with hx | hx
    · obtain ⟨h3, h4⟩ := hq2.out x hx b hxb
      refine ⟨?_, h4⟩
      rcases h3 with h5 | h5
      · obtain ⟨y, hy, hyb⟩ := hX b h5
        exact (hq.out y (List.mem_append_left _ hy) b hyb).1
      · exact .inr (Nat.le_trans h.frm.size h5)
    · obtain ⟨h3, h4⟩ := hq.out x (List.mem_append_right _ hx) b hxb
      refine ⟨h3, fun p hp' => ?_⟩
      have hlt := hold x hx b hxb
      cases hc : M' p with
      | none => rfl
      | some v =>
        rcases hM.2 p v hc with h5 | h5
        · rw [h4 p hp'] at h5; cases h5
        · rcases h5 with h6 | h6
          · exact absurd (hp' ▸ h6) hlt.2
          · have h7 : w.heap.size ≤ p.block := h6
            omega
end
section
variable {P : Program} {F : Frm} {Q : Exit → AS → Prop} {τ : Nat → AV} {hp hp' : List Blk} {N : Nat}
theorem x_perm {c : Go.Code} (hq : hp.Perm hp') (h : AC P F c Q ⟨τ, hp', N⟩) : AC P F c Q ⟨τ, hp, N⟩ := ac_wk (wk_perm hq) h
/-- rows that are nil -/
theorem wk_nils (e : TypeId) (sz : Nat) (h0 : 0 < sz) : ∀ n : Nat, Wk F ⟨τ, hp, N⟩ ⟨τ, hp ++ List.replicate n (.row (.slice none 0 0) e sz 0 []), N⟩
  | 0 => by simpa using Wk.refl _
  | n + 1 => by
    refine Wk.trans (wk_nils e sz h0 n) ?_
    intro M a w hr
    refine ⟨M, hr.tmps, hr.size, hr.defers, ?_⟩
    have := push_row hr.heap rfl rfl rfl (Nat.le_refl _) (fun _ _ => rfl) (Ext.refl _ _) (fun p v h1 h2 => by rw [h2] at h1; cases h1) (x := .row (.slice none 0 0) e sz 0 []) ⟨[], ownsO_nil _ _ _, by simp only [RTs], fun x hx => by simp at hx, h0⟩ (fun b hb => by simp [Blk.blk, Value.ownBlock] at hb)
    rw [List.replicate_succ', ← List.append_assoc]
    exact this
/-- what a variable holds, said otherwise -/
theorem wk_boxR (i : Nat) {b : Nat} {t : TypeId} {cs : List AV} (cs' : List AV) (hi : hp[i]? = some (.box b t cs)) (hz : Res cs cs') : Wk F ⟨τ, hp, N⟩ ⟨τ, hp.set i (.box b t cs'), N⟩ := by
  intro M a w hr
  refine ⟨M, hr.tmps, hr.size, hr.defers, hr.heap.step i rfl rfl rfl (Nat.le_refl _) (fun _ _ _ => rfl) (Ext.refl _ _) (fun p v h1 h2 => by rw [h2] at h1; cases h1) (fun j hj => by rw [List.getElem?_set_ne (Ne.symm hj)]) (fun x' hx' => ?_)⟩
  have hlt : i < hp.length := (List.getElem?_eq_some_iff.1 hi).1
  rw [List.getElem?_set_self hlt] at hx'
  obtain rfl : Blk.box b t cs' = x' := by injection hx'
  obtain ⟨xs, h1, h2, h3⟩ := hr.heap.at_ i _ hi
  exact ⟨⟨xs, h1, hz _ _ h2, h3⟩, fun b' hb' => .inl ⟨_, hi, hb'⟩⟩
theorem x_boxR {c : Go.Code} (i : Nat) (cs' : List AV) {b : Nat} {t : TypeId} {cs : List AV} (h : AC P F c Q ⟨τ, hp', N⟩) (hi : hp[i]? = some (.box b t cs) := by exact rfl) (hz : Res cs cs' := by repeat (first | exact res_nil | apply res_cons | exact re_own | exact re_ptr | exact re_refl)) (hf : evl (hp.set i (.box b t cs')) = some hp' := by exact rfl) : AC P F c Q ⟨τ, hp, N⟩ :=
  ac_wk (wk_boxR i cs' hi hz) (by rw [← evl_eq hf]; exact h)
end
section
variable {P : Program} {F : Frm} {o : Oper} {ρ : Operand → AV} {hp : List Blk} {K : AV → List Blk → Prop}
/-- an operation touches the blocks of A alone -/
theorem lo_frame (A B : List Blk) (hq : hp.Perm (A ++ B)) (h : ∀ F', LO P F' o ρ A (fun v A' => K v (A' ++ B))) : LO P F o ρ hp K := by
  refine ⟨fun M e w he hh => ?_⟩
  have hh := hh.perm hq
  refine ((h (subF M A w hh.glob (sub_gx2 hh))).out M e w he hh.part).mono ?_
  rintro u w' ⟨M', v, A', hK, hx, hh2, hr⟩
  exact ⟨M', v, _, hK, hx.to (part_may hh), hh.join hh2, hr⟩
/-- what comes out is a pointer to a variable of the call's own, or a map of the call's own -/
theorem lo_asp (j : Nat) (h : LO P F o ρ hp fun a hp' => ∃ b off, a = .c (.lit (.pointer (some ⟨b, off, none⟩))) ∧ K (.ptr j b off) hp') : LO P F o ρ hp K := by
  refine ⟨fun M e w he hh => (h.out M e w he hh).mono ?_⟩
  rintro u w' ⟨M', a, hp', ⟨b, off, rfl, hK⟩, hx, hh2, hr⟩
  exact ⟨M', _, hp', hK, hx, hh2, by simpa only [RA, RT] using hr⟩
end
theorem zGS {L : Tab} {σ : AS} {res : List ResultVar} {k : Nat} {R : AV → List Blk → Prop} {e : Exit} {vs : List AV} {hq : List Blk} (hh : σ.hp.take k = hq) (h : R (outA vs) hq) (he : e = .normal ∨ e = .ret := by first | exact .inl rfl | exact .inr rfl)
    (ho : OutsA L σ res vs := by repeat (first | exact outsA_nil | apply outsA_cons | (apply outA_tmp; (focus exact rfl)) | (apply outA_agg; (focus exact rfl); (focus exact rfl); (focus exact rfl); (focus exact rfl); (focus exact rfl); (focus exact rfl)) | (apply outA_one; (focus exact rfl); (focus exact rfl); (focus exact rfl); (focus exact rfl); (focus exact rfl)))) : FinG L res k R e σ := ⟨he, vs, ho, by rw [hh]; exact h⟩
section
variable {P : Program} {F : Frm} {L : Tab} {d : Option Tmp} {ty : TypeId} {pos : String} {aft : Array Edge} {g : Option (Nat × Bool)} {ρ : Operand → AV} {hp : List Blk} {K : AV → List Blk → Prop}
/-- a call that is handed all the blocks -/
theorem zCallAll {f : FuncId} {y : Operand} {xs : List Operand} {ats : Array TypeId} {asq cap : List AV} {hs : List Blk} {R : AV → List Blk → Prop} (hc : AG P f asq hs R) (hq : hp.Perm hs) (h : ∀ r hs2, R r hs2 → ∃ r', Re r r' ∧ K r' hs2) (hy : ρ y = .fn (.func f) cap := by exact rfl)
    (hx : Res (xs.map ρ ++ cap) asq := by repeat (first | exact res_nil | apply res_cons | exact re_own | exact re_ptr | exact re_refl | apply re_cls | exact rzs_nil | apply rzs_cons | exact rz_c | exact rz_nil rfl | apply rz_agg | apply rz_fn | apply rz_tup)) :
    LO P F ⟨d, .call { callee := .value y, args := xs.toArray, argTypes := ats }, ty, pos, aft, g⟩ ρ hp K := by
  refine ⟨fun M e w he hh => ?_⟩
  obtain ⟨hE, hcall⟩ := hc
  have h1 := he y (by simp [Op.operands, Call.operands])
  rw [hy] at h1
  simp only [RA] at h1
  obtain ⟨cs, hu, hcs⟩ := h1
  rw [run_call hE hu]
  have hargs := hx M _ ((ev_all xs (fun x hx => he x (by simp [Op.operands, Call.operands, hx]))).app hcs)
  refine (hcall F M w _ (hh.perm hq) hargs).mono ?_
  rintro e' w' ⟨v, r, hs2, M', rfl, hR, hM, hh2, hr⟩
  obtain ⟨r', hre, hK⟩ := h r hs2 hR
  exact ⟨v, rfl, M', r', hs2, hK, hM, hh2, hre M' v hr⟩
/-- an append where the other blocks are not written out -/
theorem zApS {t el : TypeId} {ti te : TI} {x y : Operand} {i n m sz : Nat} {v : Value} {cs ts : List T} (h : ∀ v', K (.own i v') (hp.set i (.row v' el sz (n + m) (cs ++ ts)))) (hL : TabOk P L := by exact tok) (hx : ρ x = .own i v := by exact rfl) (hi : hp[i]? = some (.row v el sz n cs) := by exact rfl) (hy : ρ y = .c (.row m sz ts) := by exact rfl) (ht : L.look t = some ti := by exact rfl) (hd : ti.d = .slice el := by exact rfl) (hte : L.look el = some te := by exact rfl) (hsz : te.size = sz := by exact rfl)
    (h63 : n + m ≤ maxLen := by first | (simp only [maxLen]; omega) | (simp only [maxLen]; dsimp only at *; omega)) (hbytes : (n + m) * te.bytes ≤ 140737488355328 := by first | (simp only []; omega) | (dsimp only at *; omega)) : LO P F ⟨d, .call { callee := .builtin .append, args := #[x, y], argTypes := #[t, t] }, ty, pos, aft, g⟩ ρ hp K := lo_app hL hx hi hy ht hd hte hsz h63 hbytes h
theorem ra_c {M : Mm} {t : T} {u : Value} (h : RA M (.c t) u) : RT M t u := by simpa only [RA] using h
theorem ra_o {M : Mm} {j : Nat} {v u : Value} (h : RA M (.own j v) u) : RT M (.lit v) u := by simp only [RA, RT] at h ⊢; exact h.1
theorem ra_p {M : Mm} {j b off : Nat} {u : Value} (h : RA M (.ptr j b off) u) : RT M (.lit (.pointer (some ⟨b, off, none⟩))) u := by simp only [RA, RT] at h ⊢; exact h
/-- an update where the other blocks are not written out -/
theorem zUpiS (kT eT : TypeId) {xT : TypeId} {x y z : Operand} {i b : Nat} {s : Int} {l l' : List (Int × T)} {t : T} (hm : mput s t l = l') (h : K (.c (.lit undef)) (hp.set i (.mp b (mkeys (Value.int .i64) l')))) (hu : isMap P xT = some (kT, eT) := by kernel_rfl) (hk : P.underlying kT = some (.int .i64) := by kernel_rfl) (hx : ρ x = .own i (.map (some b)) := by exact rfl) (hi : hp[i]? = some (.mp b (mkeys (Value.int .i64) l)) := by exact rfl) (hy : ρ y = .c (.lit (.int .i64 s)) := by exact rfl) (hz : ∀ M u, RA M (ρ z) u → RT M t u := by first | exact fun _ _ h => ra_c h | exact fun _ _ h => ra_o h | exact fun _ _ h => ra_p h) :
    LO P F ⟨d, .mapUpdate xT x y z, ty, pos, aft, g⟩ ρ hp K := lo_mapUpdate (keyInt .i64) (isMap_eq hu) hk hx hi hy hz (.inl rfl) (by rw [hm]; exact h)
end
end Go.Proofs.Ytgjfiedepfjdcaa
namespace Go.Proofs.Ytgjfiedepfjdcaa
open Go.RowKit
section
variable {P : Program} {F : Frm} {L : Tab} {d : Option Tmp} {ty : TypeId} {pos : String} {aft : Array Edge} {g : Option (Nat × Bool)} {ρ : Operand → AV} {hp : List Blk} {K : AV → List Blk → Prop} {te : TI} {x y : Operand} {i b : Nat} {o : Option (List Nat × Nat)} {xT : TypeId}
theorem zLkin (kT eT : TypeId) {s : Int} {l : List (Int × T)} {zs : List T} {t : T} (ht : (mget s l).getD (.agg zs) = t) (h : K (.c t) hp) (hL : TabOk P L := by exact tok) (hu : isMap P xT = some (kT, eT) := by kernel_rfl) (hk : P.underlying kT = some (.int .i64) := by kernel_rfl) (hte : L.look eT = some te := by exact rfl) (hz : te.zero.map (fun v => T.lit v) = zs := by exact rfl) (ha : te.agg = true := by exact rfl) (hx : ρ x = .own i (.map (some b)) := by exact rfl) (hi : hp[i]? = some (.mpx b (mkeys (Value.int .i64) l) o) := by exact rfl) (hy : ρ y = .c (.lit (.int .i64 s)) := by exact rfl) :
    LO P F ⟨d, .lookup xT x y false, ty, pos, aft, g⟩ ρ hp K := lo_lookup_aggn (keyInt .i64) hL (isMap_eq hu) hk hte ha hx hi hy (by rw [hz, ht]; exact h)
end
end Go.Proofs.Ytgjfiedepfjdcaa
namespace Go.Proofs.Ytgjfiedepfjdcaa
open Go.RowKit
theorem heap_mark {F : Frm} {M : Mm} {hp : List Blk} {w w' : World} (h : HeapOk F M hp w) (g : Nat) (hg : F.may g) (hno : ∀ (i : Nat) (x : Blk), hp[i]? = some x → x.blk ≠ some g) (hos : w'.os = w.os) (ht : w'.tape = w.tape) (hout : w'.output = w.output) (hsz : w'.heap.size = w.heap.size) (hblk : ∀ b, b ≠ g → w'.heap[b]? = w.heap[b]?) (hc : ∀ p, w'.cell? p = w.cell? p) : HeapOk F M hp w' := by
  refine ⟨fun p v hp => by rw [hc]; exact h.mem p v hp, h.ext, ⟨hos.trans h.frm.os, ht.trans h.frm.tape, hout.trans h.frm.output, by rw [hsz]; exact h.frm.size, fun b hb hX => ?_⟩, fun i x hx => ?_, h.sep, h.out⟩
  · rw [hblk b fun e => ?_]
    · exact h.frm.block b hb hX
    · subst e
      rcases hg with h1 | h1
      · exact hX h1
      · omega
  · exact (h.at_ i x hx).keep (Sub.refl _) fun b hb _ => hblk b fun e => hno i x hx (by rw [← e]; exact hb)
end Go.Proofs.Ytgjfiedepfjdcaa
namespace Go.Proofs.Ytgjfiedepfjdcaa
open Go.RowKit
section
variable {P : Program} {F : Frm} {L : Tab} {d : Option Tmp} {ty : TypeId} {pos : String} {aft : Array Edge} {g : Option (Nat × Bool)} {ρ : Operand → AV} {hp : List Blk} {K : AV → List Blk → Prop}
theorem zTu (t0 : TypeId) (n : Nat) {s dst t : TypeId} {x : Operand} {i b off : Nat} {cs : List AV} (h : K (.ptr i b off) hp) (hx : ρ x = .ptr i b off := by exact rfl) (hi : hp[i]? = some (.box b t cs) := by exact rfl) (hoff : Nat.blt off cs.length = true := by exact rfl) (hs : P.underlying s = some (.pointer t0) := by kernel_rfl) (hd : P.underlying dst = some .unsafePointer := by kernel_rfl) (hj : (P.info? t0).map (·.size) = some (n + 1) := by kernel_rfl) : LO P F ⟨d, .convert s dst x, ty, pos, aft, g⟩ ρ hp K := by
  refine LO.same (fun M e w he hh => ?_) h
  have h1 := he x (by simp [Op.operands])
  rw [hx] at h1
  simp only [RA] at h1
  obtain ⟨xs, hb, hr, -⟩ := hh.at_ i _ hi
  obtain ⟨j, hj1, hj2⟩ := Option.map_eq_some_iff.1 hj
  have hsh : w.shape? b = some (t, xs.length) := by simp [World.shape?, hb]
  have hl := hr.len
  have hlt : off < cs.length := Nat.blt_eq.mp hoff
  refine ⟨.pointer (some ⟨b, off, none⟩), ?_, by simp only [RA]⟩
  have hc := Go.Lib.run_to_unsafe (P := P) w (src := s) (dst := dst) ⟨b, off, none⟩ hs hd hj1 (by rw [hj2]; omega) hsh (by show off < xs.length; omega)
  simp [execOp, h1, hc]
theorem zFu (t0 : TypeId) {s dst t : TypeId} {x : Operand} {i b off : Nat} {cs : List AV} (h : K (.ptr i b off) hp) (hx : ρ x = .ptr i b off := by exact rfl) (hi : hp[i]? = some (.box b t cs) := by exact rfl) (hs : P.underlying s = some .unsafePointer := by kernel_rfl) (hd : P.underlying dst = some (.pointer t0) := by kernel_rfl) (hj : (P.info? t0).isSome = true := by kernel_rfl) (hlies : liesAt P P.depth t (cs.length / P.cellsOf t) off t0 1 = true := by kernel_rfl) : LO P F ⟨d, .convert s dst x, ty, pos, aft, g⟩ ρ hp K := by
  refine LO.same (fun M e w he hh => ?_) h
  have h1 := he x (by simp [Op.operands])
  rw [hx] at h1
  simp only [RA] at h1
  obtain ⟨xs, hb, hr, -⟩ := hh.at_ i _ hi
  obtain ⟨j, hj1⟩ := Option.isSome_iff_exists.1 hj
  have hl := hr.len
  have hsh : w.shape? b = some (t, xs.length) := by simp [World.shape?, hb]
  refine ⟨.pointer (some ⟨b, off, none⟩), ?_, by simp only [RA]⟩
  have hc := Go.Lib.run_from_unsafe (P := P) w (src := s) (dst := dst) ⟨b, off, none⟩ hs hd hj1 hsh (by show liesAt P P.depth t (xs.length / P.cellsOf t) off t0 1 = true; rw [hl]; exact hlies)
  simp [execOp, h1, hc]
/-- internal/abi.NoEscape: the pointer asq it is -/
theorem zNes {f : FuncId} {y x : Operand} {ats : Array TypeId} {i b off : Nat} {fn : Func} (h : K (.ptr i b off) hp) (hy : ρ y = .fn (.func f) [] := by exact rfl) (hx : ρ x = .ptr i b off := by exact rfl) (hf : P.funcs[f]? = some fn) (h1 : (fn.name == "runtime.NumGoroutine") = false) (h2 : fn.body.isNone = true) (h3 : Extern.findNext fn = none) (h4 : Extern.find fn = some Extern.AbiNoEscape.same) :
    LO P F ⟨d, .call { callee := .value y, args := #[x], argTypes := ats }, ty, pos, aft, g⟩ ρ hp K := by
  refine LO.same (fun M e w he hh => ?_) h
  have a1 := he x (by simp [Op.operands, Call.operands])
  rw [hx] at a1
  have a2 := he y (by first | (simp [Op.operands]; done) | simp [Op.operands, Call.operands])
  rw [hy] at a2
  simp only [RA] at a1 a2
  obtain ⟨cs, hu, rfl⟩ := a2
  refine ⟨.pointer (some ⟨b, off, none⟩), ?_, by simp only [RA]⟩
  have hc := run_callFunc_extern hf h1 h2 h3 h4 #[.pointer (some ⟨b, off, none⟩)] w
  rw [Go.Lib.run_noEscape] at hc
  simp [execOp, resolve, invoke, Deferred.ofValue, hu, a1, hc]
/-- a pointer held against itself -/
theorem zPn (t0 : TypeId) {t t' : TypeId} {x y : Operand} {i i' b off : Nat} (h : K (.c (.lit (.bool false))) hp) (hx : ρ x = .ptr i b off := by exact rfl) (hy : ρ y = .ptr i' b off := by exact rfl) (ht : P.underlying t = some (.pointer t0) := by kernel_rfl) (hj : (P.info? t0).isSome = true := by kernel_rfl) : LO P F ⟨d, .binOp .neq t x y t', ty, pos, aft, g⟩ ρ hp K := by
  refine LO.same (fun M e w he hh => ?_) h
  have h1 := he x (by simp [Op.operands])
  have h2 := he y (by simp [Op.operands])
  rw [hx] at h1
  rw [hy] at h2
  simp only [RA] at h1 h2
  obtain ⟨j, hj1⟩ := Option.isSome_iff_exists.1 hj
  have hc := Go.Lib.run_neq_ptr_same (P := P) w ⟨b, off, none⟩ ht hj1
  refine ⟨.bool false, ?_, by simp only [RA, RT]⟩
  simp [execOp, h1, h2, guard_ptr, hc]
/-- the address of a row's head -/
theorem zSd {t e : TypeId} {ats : Array TypeId} {x : Operand} {i n sz : Nat} {v : Value} {cs : List T} (hn : 0 < n) (h : K (.eptr i v 0) hp) (hx : ρ x = .own i v := by exact rfl) (hi : hp[i]? = some (.row v e sz n cs) := by exact rfl) : LO P F ⟨d, .call { callee := .builtin .unsafeSliceData, args := #[x], argTypes := ats }, t, pos, aft, g⟩ ρ hp K := by
  refine LO.same (fun M ev w he hh => ?_) h
  have h1 := he x (by simp [Op.operands, Call.operands])
  rw [hx] at h1
  simp only [RA] at h1
  obtain ⟨xs, ho, -⟩ := hh.at_ i _ hi
  obtain ⟨A, c, rfl, hnc, hcm⟩ := ownO_shape ho
  obtain ⟨ad, rfl⟩ := ho.some_ hn
  refine ⟨.pointer (some ad), ?_, by simp only [RA]; exact ⟨ad, n, c, rfl, by simp [Addr.add]⟩⟩
  have hc := Go.Lib.run_unsafeSliceData_row (P := P) w ats t ad n c (by omega)
  simp [execOp, resolve, invoke, builtin, h1.1, hc]
theorem zSdN {t : TypeId} {ats : Array TypeId} {x : Operand} {i : Nat} (h : K (.c (.lit (.pointer none))) hp) (hx : ρ x = .own i (.slice none 0 0) := by exact rfl) : LO P F ⟨d, .call { callee := .builtin .unsafeSliceData, args := #[x], argTypes := ats }, t, pos, aft, g⟩ ρ hp K := by
  refine LO.same (fun M ev w he hh => ?_) h
  have h1 := he x (by simp [Op.operands, Call.operands])
  rw [hx] at h1
  simp only [RA] at h1
  refine ⟨.pointer none, ?_, by simp only [RA, RT]⟩
  have hc := Go.Lib.run_unsafeSliceData_nil (P := P) w ats t 0 0
  simp [execOp, resolve, invoke, builtin, h1.1, hc]
theorem zUsN {t pt it : TypeId} {x y : Operand} (h : K (.c (.lit (.string ⟨#[]⟩))) hp) (hx : ρ x = .c (.lit (.pointer none)) := by exact rfl) (hy : ρ y = .c (.lit (.int .i64 ((0 : Nat) : Int))) := by exact rfl) : LO P F ⟨d, .call { callee := .builtin .unsafeString, args := #[x, y], argTypes := #[pt, it] }, t, pos, aft, g⟩ ρ hp K := by
  refine LO.same (fun M ev w he hh => ?_) h
  have h1 := he x (by simp [Op.operands, Call.operands])
  have h2 := he y (by simp [Op.operands, Call.operands])
  rw [hx] at h1
  rw [hy] at h2
  simp only [RA, RT] at h1 h2
  refine ⟨.string ⟨#[]⟩, ?_, by simp only [RA, RT]⟩
  have hc := Go.Lib.run_unsafeString_none (P := P) w pt it t none
  simp [execOp, resolve, invoke, builtin, h1, h2]
  exact by rw [hc]; rfl
/-- nothing appended: the row asq it is -/
theorem zApE {t u e : TypeId} {ti tu te : TI} {x y : Operand} {i n sz : Nat} {v : Value} {cs : List T} {s : ByteArray} (hs : s.size = 0) (h : K (.own i v) hp) (hL : TabOk P L := by exact tok) (hx : ρ x = .own i v := by exact rfl) (hi : hp[i]? = some (.row v e sz n cs) := by exact rfl) (hy : ρ y = .c (.lit (.string s)) := by exact rfl) (ht : L.look t = some ti := by exact rfl) (hd : ti.d = .slice e := by exact rfl) (hu : L.look u = some tu := by exact rfl) (hud : tu.d = .string := by exact rfl) (hte : L.look e = some te := by exact rfl) : LO P F ⟨d, .call { callee := .builtin .append, args := #[x, y], argTypes := #[t, u] }, ty, pos, aft, g⟩ ρ hp K := by
  refine LO.same (fun M ev w hev hh => ?_) h
  have h1 := hev x (by first | (simp [Op.operands]; done) | simp [Op.operands, Call.operands])
  rw [hx] at h1
  have h2 := hev y (by first | (simp [Op.operands]; done) | simp [Op.operands, Call.operands])
  rw [hy] at h2
  simp only [RA, RT] at h1 h2
  obtain ⟨xs, ho, -⟩ := hh.at_ i _ hi
  obtain ⟨A, c, rfl, hnc, hcm⟩ := ownO_shape ho
  obtain ⟨inf, zv, i1, -⟩ := hL.info hte
  refine ⟨.slice A n c, ?_, by simp only [RA]; exact ⟨trivial, h1.2⟩⟩
  have hc : (Builtin.append_ #[t, u] ty #[.slice A n c, .string s]).run P w = .ok (.slice A n c) w := by
    cases A <;> simp [Builtin.append_, run_underlying (hL.slice ht hd), run_underlying (hL.string hu hud), sizeOf, typeInfo, i1, Builtin.lenOf, hs, hnc, Builtin.firstCells, storeCells]
  simp [execOp, resolve, invoke, builtin, h1.1, h2, hc]
end
end Go.Proofs.Ytgjfiedepfjdcaa
namespace Go.Proofs.Ytgjfiedepfjdcaa
open Go.RowKit
structure Lp where
  kind : Int
  num : Int
  s : ByteArray
instance : Inhabited Lp := ⟨⟨0, 0, ⟨#[]⟩⟩⟩
def Lp.ts (p : Lp) : List T := [.lit (.int .i64 p.kind), .lit (.int .i64 p.num), .lit (.string p.s)]
inductive Nd where
  | leaf (p : Lp)
  | grp (p : Lp) (l : List Nd)
def clP : Lp := ⟨6, 0, ⟨#[]⟩⟩
mutual
def Nd.flat : Nd → List Lp
  | .leaf p => [p]
  | .grp p l => p :: (Nd.flats l ++ [clP])
def Nd.flats : List Nd → List Lp
  | [] => []
  | x :: r => x.flat ++ Nd.flats r
end
/-- a line's end within a text -/
def nlB (s : ByteArray) : Bool := decide (0 ≤ Lib.indexByte s.data.toList 10)
def badP (p : Lp) : Bool := decide (p.kind < 1) || decide (6 < p.kind) || (!decide (p.kind = 1) && !decide (p.s = ⟨#[]⟩)) || (!decide (p.kind = 5) && !decide (p.num = 0)) || decide (4000 < p.s.size) || nlB p.s
def argP (p : Lp) : Bool := decide (p.num < 0) || decide (200 < p.num)
def dl (p : Lp) : Int := if p.kind = 5 then 1 else if p.kind = 6 then -1 else 0
def chk (k : Int) : List Lp → Int
  | [] => if k = 0 then 0 else 3
  | p :: r => if badP p = true then 3 else if argP p = true then 1 else if k + dl p < 0 ∨ 200 < k + dl p then 3 else chk (k + dl p) r
def chkD (d : List Lp) : Int := if 8000 < d.length then 2 else chk 0 d
/-- what a piece has that passes -/
structure OkP (p : Lp) : Prop where
  k1 : 1 ≤ p.kind
  k6 : p.kind ≤ 6
  txt : p.kind ≠ 1 → p.s = ⟨#[]⟩
  nm : p.kind ≠ 5 → p.num = 0
  sz : p.s.size ≤ 4000
  n0 : 0 ≤ p.num
  n2 : p.num ≤ 200
theorem okP_of {p : Lp} (h : badP p = false) (h2 : argP p = false) : OkP p := by
  simp only [badP, argP, Bool.or_eq_false_iff, Bool.and_eq_false_iff, decide_eq_false_iff_not, Bool.not_eq_false', decide_eq_true_eq] at h h2
  obtain ⟨⟨⟨⟨⟨a, b⟩, c⟩, e⟩, f⟩, g⟩ := h
  obtain ⟨i, j⟩ := h2
  exact ⟨by omega, by omega, fun hk => by rcases c with c | c; exact absurd c hk; exact c, fun hk => by rcases e with e | e; exact absurd e hk; exact e, by omega, by omega, by omega⟩
mutual
def Nd.ok : Nd → Prop
  | .leaf p => OkP p ∧ p.kind ≠ 5 ∧ p.kind ≠ 6
  | .grp p l => OkP p ∧ p.kind = 5 ∧ Nd.oks l
def Nd.oks : List Nd → Prop
  | [] => True
  | x :: r => x.ok ∧ Nd.oks r
end
theorem emp_size : (⟨#[]⟩ : ByteArray).size = 0 := rfl
/-- a right document is a row of groups -/
theorem parse : ∀ (n : Nat) (d : List Lp) (k : Int), d.length ≤ n → 0 ≤ k → chk k d = 0 → (k = 0 ∧ ∃ F, Nd.oks F ∧ d = Nd.flats F) ∨ (0 < k ∧ ∃ F r, Nd.oks F ∧ d = Nd.flats F ++ clP :: r ∧ chk (k - 1) r = 0)
  | n, [], k, _, hk, h => by
    by_cases k0 : k = 0
    · exact .inl ⟨k0, [], by simp [Nd.oks], rfl⟩
    · simp [chk, k0] at h
  | 0, p :: r, k, hn, _, _ => by simp at hn
  | n + 1, p :: r, k, hn, hk, h => by
    rw [List.length_cons] at hn
    unfold chk at h
    cases hb : badP p
    case true => simp [hb] at h
    cases ha : argP p
    case true => simp [hb, ha] at h
    simp only [hb, ha, if_false, Bool.false_eq_true] at h
    have ho := okP_of hb ha
    split at h
    · simp at h
    rename_i hr
    by_cases h5 : p.kind = 5
    · have hd : dl p = 1 := by unfold dl; rw [if_pos h5]
      rw [hd] at h hr
      rcases parse n r (k + 1) (by omega) (by omega) h with ⟨h0, _⟩ | ⟨_, F, r1, hF, hr1, hc⟩
      · omega
      rw [show k + 1 - 1 = k by omega] at hc
      have hl : r1.length ≤ n := by
        have := congrArg List.length hr1
        rw [List.length_append, List.length_cons] at this
        omega
      rcases parse n r1 k hl hk hc with ⟨h0, F2, hF2, hr2⟩ | ⟨h0, F2, r2, hF2, hr2, hc2⟩
      · refine .inl ⟨h0, .grp p F :: F2, by simp only [Nd.oks, Nd.ok]; exact ⟨⟨ho, h5, hF⟩, hF2⟩, ?_⟩
        simp only [Nd.flats, Nd.flat]
        rw [hr1, hr2]
        simp
      · refine .inr ⟨h0, .grp p F :: F2, r2, by simp only [Nd.oks, Nd.ok]; exact ⟨⟨ho, h5, hF⟩, hF2⟩, ?_, hc2⟩
        simp only [Nd.flats, Nd.flat]
        rw [hr1, hr2]
        simp
    · by_cases h6 : p.kind = 6
      · have hd : dl p = -1 := by unfold dl; rw [if_neg h5, if_pos h6]
        rw [hd] at h hr
        have hp : p = clP := by
          have h1 := ho.txt (by omega)
          have h2 := ho.nm h5
          obtain ⟨pk, pn, ps⟩ := p
          dsimp only at h1 h2 h6
          rw [h1, h2, h6]
          rfl
        exact .inr ⟨by omega, [], r, by simp [Nd.oks], by rw [hp]; rfl, by rw [show k - 1 = k + -1 by omega]; exact h⟩
      · have hd : dl p = 0 := by unfold dl; rw [if_neg h5, if_neg h6]
        rw [hd, Int.add_zero] at h
        rcases parse n r k (by omega) hk h with ⟨h0, F2, hF2, hr2⟩ | ⟨h0, F2, r2, hF2, hr2, hc2⟩
        · exact .inl ⟨h0, .leaf p :: F2, by simp only [Nd.oks, Nd.ok]; exact ⟨⟨ho, h5, h6⟩, hF2⟩, by rw [hr2]; rfl⟩
        · exact .inr ⟨h0, .leaf p :: F2, r2, by simp only [Nd.oks, Nd.ok]; exact ⟨⟨ho, h5, h6⟩, hF2⟩, by rw [hr2]; rfl, hc2⟩
theorem parse0 {d : List Lp} (h : chk 0 d = 0) : ∃ F, Nd.oks F ∧ d = Nd.flats F := by
  rcases parse _ d 0 (Nat.le_refl _) (Int.le_refl _) h with ⟨_, h⟩ | ⟨h, _⟩
  · exact h
  · omega
mutual
/-- how wide something is in one line; below 0: it must break -/
def Nd.wide : Nd → Int
  | .leaf p => if p.kind = 1 then (p.s.size : Int) else if p.kind = 2 then 1 else if p.kind = 4 then -1 else 0
  | .grp _ l => Nd.wides 0 l
def Nd.wides (n : Int) : List Nd → Int
  | [] => n
  | x :: r => if x.wide < 0 then -1 else Nd.wides (n + x.wide) r
end
mutual
/-- how wide something is up to where it may break first; does it? -/
def Nd.front : Nd → Int × Bool
  | .leaf p => if p.kind = 1 then ((p.s.size : Int), false) else (0, true)
  | .grp _ l => Nd.fronts 0 l
def Nd.fronts (n : Int) : List Nd → Int × Bool
  | [] => (n, false)
  | x :: r => if x.front.2 = true then (n + x.front.1, true) else Nd.fronts (n + x.front.1) r
end
def aft1 (x : Nd) (a : Int) : Int := if x.front.2 = true then x.front.1 else a + x.front.1
/-- what follows, with some things ahead of it -/
def aft : List Nd → Int → Int
  | [], a => a
  | x :: r, a => aft1 x (aft r a)
def spc (n : Int) : ByteArray := ⟨(List.replicate n.toNat 32).toArray⟩
def nlS (deep : Int) : ByteArray := ⟨#[10]⟩ ++ spc deep
mutual
/-- the text of something, and where the line is then -/
def Nd.lay (W : Int) : Nd → (a deep col : Int) → (br : Bool) → ByteArray × Int
  | .leaf p, _, deep, col, br => if p.kind = 1 then (p.s, col + p.s.size) else if br = true ∨ p.kind = 4 then (nlS deep, deep) else if p.kind = 2 then (⟨#[32]⟩, col + 1) else (⟨#[]⟩, col)
  | .grp p l, a, deep, col, br => Nd.lays W l a (deep + p.num) col (br && (decide (Nd.wides 0 l < 0) || decide (col + Nd.wides 0 l + a > W)))
def Nd.lays (W : Int) : List Nd → (a deep col : Int) → (br : Bool) → ByteArray × Int
  | [], _, _, col, _ => (⟨#[]⟩, col)
  | x :: r, a, deep, col, br => ((x.lay W (aft r a) deep col br).1 ++ (Nd.lays W r a deep (x.lay W (aft r a) deep col br).2 br).1, (Nd.lays W r a deep (x.lay W (aft r a) deep col br).2 br).2)
end
/-- the texts from a place on up to the next break -/
def tlN : List Lp → Nat
  | [] => 0
  | p :: r => if p.kind = 2 ∨ p.kind = 3 ∨ p.kind = 4 then 0 else p.s.size + tlN r
theorem fronts_aft : ∀ (l : List Nd) (n a : Int), (if (Nd.fronts n l).2 = true then (Nd.fronts n l).1 else a + (Nd.fronts n l).1) = n + aft l a
  | [], n, a => by simp [Nd.fronts, aft]; omega
  | x :: r, n, a => by
    rw [Nd.fronts, aft]
    unfold aft1
    by_cases h : x.front.2 = true
    · simp [h]
    · rw [if_neg h, if_neg h, fronts_aft r (n + x.front.1) a]
      omega
theorem aft_grp (p : Lp) (l : List Nd) (a : Int) : aft1 (.grp p l) a = aft l a := by
  have := fronts_aft l 0 a
  unfold aft1
  rw [Nd.front]
  omega
theorem tl_cl (r : List Lp) : tlN (clP :: r) = tlN r := by
  rw [tlN, if_neg (by decide)]
  show 0 + _ = _
  omega
mutual
theorem tl_nd : ∀ x : Nd, x.ok → ∀ rest : List Lp, (tlN (x.flat ++ rest) : Int) = aft1 x (tlN rest)
  | .leaf p, h, rest => by
    simp only [Nd.ok] at h
    obtain ⟨ho, h5, h6⟩ := h
    have := ho.k1
    have := ho.k6
    rw [Nd.flat, List.singleton_append, tlN]
    unfold aft1
    rw [Nd.front]
    by_cases h1 : p.kind = 1
    · rw [if_neg (by omega)]
      simp only [h1, if_true]
      simp
      omega
    · rw [if_pos (by omega)]
      simp [h1]
  | .grp p l, h, rest => by
    simp only [Nd.ok] at h
    obtain ⟨ho, h5, hl⟩ := h
    have h1 := ho.txt (by omega)
    rw [aft_grp, Nd.flat, List.cons_append, tlN, if_neg (by omega), h1, emp_size, Nat.zero_add, List.append_assoc, List.singleton_append, tl_nds l hl (clP :: rest), tl_cl]
theorem tl_nds : ∀ l : List Nd, Nd.oks l → ∀ rest : List Lp, (tlN (Nd.flats l ++ rest) : Int) = aft l (tlN rest)
  | [], _, rest => rfl
  | x :: r, h, rest => by
    simp only [Nd.oks] at h
    rw [Nd.flats, List.append_assoc, tl_nd x h.1, tl_nds r h.2]
    rfl
end
def plen (p : Lp) : Nat := if p.kind = 2 then 1 else p.s.size
mutual
def Nd.wd : Nd → Nat
  | .leaf p => plen p
  | .grp _ l => Nd.wds l
def Nd.wds : List Nd → Nat
  | [] => 0
  | x :: r => x.wd + Nd.wds r
end
mutual
def Nd.hd : Nd → Nat
  | .leaf p => if p.kind = 4 then 1 else 0
  | .grp _ l => Nd.hds l
def Nd.hds : List Nd → Nat
  | [] => 0
  | x :: r => x.hd + Nd.hds r
end
mutual
theorem wide_eq : ∀ x : Nd, x.ok → x.wide = if 0 < x.hd then -1 else (x.wd : Int)
  | .leaf p, h => by
    simp only [Nd.ok] at h
    obtain ⟨ho, h5, h6⟩ := h
    have := ho.k1
    have := ho.k6
    rw [Nd.wide, Nd.hd, Nd.wd]
    unfold plen
    by_cases h1 : p.kind = 1
    · simp [h1]
    · have hs := ho.txt h1
      by_cases h2 : p.kind = 2
      · simp [h2]
      · by_cases h4 : p.kind = 4
        · simp [h4]
        · simp [h1, h2, h4, hs, emp_size]
  | .grp p l, h => by
    simp only [Nd.ok] at h
    rw [Nd.wide, Nd.hd, Nd.wd, wides_eq l h.2.2 0 (Int.le_refl _)]
    simp
theorem wides_eq : ∀ l : List Nd, Nd.oks l → ∀ n : Int, 0 ≤ n → Nd.wides n l = if 0 < Nd.hds l then -1 else n + (Nd.wds l : Int)
  | [], _, n, _ => by simp [Nd.wides, Nd.hds, Nd.wds]
  | x :: r, h, n, hn => by
    simp only [Nd.oks] at h
    rw [Nd.wides, wide_eq x h.1, Nd.hds, Nd.wds]
    by_cases hx : 0 < x.hd
    · rw [if_pos hx, if_pos (by decide), if_pos (by omega)]
    · rw [if_neg hx, if_neg (by omega), wides_eq r h.2 _ (by omega)]
      by_cases hr : 0 < Nd.hds r
      · rw [if_pos hr, if_pos (by omega)]
      · rw [if_neg hr, if_neg (by omega)]
        omega
end
end Go.Proofs.Ytgjfiedepfjdcaa
namespace Go.Proofs.Ytgjfiedepfjdcaa
open Go.RowKit
structure Gp where
  wd : Int
  tl : Int
  hard : Bool
  brk : Bool
  ind : Int
def Gp.ts (g : Gp) : List T := [.lit (.int .i64 g.wd), .lit (.int .i64 g.tl), .lit (.bool g.hard), .lit (.bool g.brk), .lit (.int .i64 g.ind)]
def g0 : Gp := ⟨0, 0, false, false, 0⟩
structure Ms where
  stk : List (Int × Int × Int)
  w : Int
  h : Int
  out : List (Int × Gp)
def topM (s : Ms) : Int × Int × Int := s.stk.getLast?.getD (0, 0, 0)
def mstep (T : Nat → Int) (i : Nat) (p : Lp) (s : Ms) : Ms :=
  if p.kind = 5 then ⟨s.stk ++ [((i : Int), s.w, s.h)], s.w + plen p, s.h, s.out⟩
  else if p.kind = 6 then ⟨s.stk.dropLast, s.w + plen p, s.h, gput (topM s).1 ⟨s.w - (topM s).2.1, T (i + 1), decide (s.h > (topM s).2.2), false, 0⟩ s.out⟩
  else if p.kind = 4 then ⟨s.stk, s.w + plen p, s.h + 1, s.out⟩
  else ⟨s.stk, s.w + plen p, s.h, s.out⟩
def mrun (T : Nat → Int) : Nat → List Lp → Ms → Ms
  | _, [], s => s
  | i, p :: r, s => mrun T (i + 1) r (mstep T i p s)
theorem mrun_app (T : Nat → Int) : ∀ (a b : List Lp) (i : Nat) (s : Ms), mrun T i (a ++ b) s = mrun T (i + a.length) b (mrun T i a s)
  | [], b, i, s => rfl
  | p :: a, b, i, s => by
    rw [List.cons_append, mrun, mrun, mrun_app T a b (i + 1), List.length_cons, show i + 1 + a.length = i + (a.length + 1) by omega]
theorem mrun_snoc (T : Nat → Int) {d : List Lp} {k : Nat} {p : Lp} (h : d[k]? = some p) (s : Ms) : mrun T 0 (d.take (k + 1)) s = mstep T k p (mrun T 0 (d.take k) s) := by
  obtain ⟨hk, rfl⟩ := List.getElem?_eq_some_iff.1 h
  rw [List.take_succ_eq_append_getElem hk, mrun_app, List.length_take, Nat.min_eq_left (by omega), Nat.zero_add]
  rfl
mutual
def Nd.ents : Nd → Nat → Int → List (Int × Gp)
  | .leaf _, _, _ => []
  | .grp _ l, i, a => Nd.entss l (i + 1) a ++ [((i : Int), ⟨(Nd.wds l : Int), a, decide (0 < Nd.hds l), false, 0⟩)]
def Nd.entss : List Nd → Nat → Int → List (Int × Gp)
  | [], _, _ => []
  | x :: r, i, a => x.ents i (aft r a) ++ Nd.entss r (i + x.flat.length) a
end
def puts (es : List (Int × Gp)) (o : List (Int × Gp)) : List (Int × Gp) := es.foldl (fun o e => gput e.1 e.2 o) o
theorem puts_app (a b o : List (Int × Gp)) : puts (a ++ b) o = puts b (puts a o) := by unfold puts; rw [List.foldl_append]
theorem drop_at {d a rest : List Lp} {i : Nat} (h : d.drop i = a ++ rest) : d.drop (i + a.length) = rest := by
  rw [← List.drop_drop, h, List.drop_left]
mutual
theorem mrun_nd {T : Nat → Int} {d : List Lp} (hT : ∀ i, T i = (tlN (d.drop i) : Int)) : ∀ x : Nd, x.ok → ∀ (i : Nat) (rest : List Lp) (s : Ms), d.drop i = x.flat ++ rest → mrun T i x.flat s = ⟨s.stk, s.w + (x.wd : Int), s.h + (x.hd : Int), puts (x.ents i (tlN rest)) s.out⟩
  | .leaf p, h, i, rest, s, hd => by
    simp only [Nd.ok] at h
    obtain ⟨ho, h5, h6⟩ := h
    rw [Nd.flat, mrun, mrun, mstep, if_neg h5, if_neg h6, Nd.wd, Nd.hd, Nd.ents]
    by_cases h4 : p.kind = 4
    · rw [if_pos h4, if_pos h4]
      rfl
    · rw [if_neg h4, if_neg h4]
      simp [puts]
  | .grp p l, h, i, rest, s, hd => by
    simp only [Nd.ok] at h
    obtain ⟨ho, h5, hl⟩ := h
    have hp0 : plen p = 0 := by
      unfold plen
      rw [if_neg (by omega), ho.txt (by omega)]
      rfl
    have hc0 : plen clP = 0 := rfl
    rw [Nd.flat, List.cons_append, List.append_assoc, List.singleton_append] at hd
    have hd1 : d.drop (i + 1) = Nd.flats l ++ clP :: rest := drop_at (a := [p]) hd
    have hd2 : d.drop (i + 1 + (Nd.flats l).length) = clP :: rest := drop_at hd1
    have hd3 : d.drop (i + 1 + (Nd.flats l).length + 1) = rest := drop_at (a := [clP]) hd2
    have hm := mrun_nds hT l hl (i + 1) (clP :: rest) ⟨s.stk ++ [((i : Int), s.w, s.h)], s.w + plen p, s.h, s.out⟩ hd1
    rw [Nd.flat, mrun, mrun_app, mstep, if_pos h5, hm, mrun, mrun, mstep, if_neg (by decide), if_pos (by rfl)]
    rw [hT, hd3, Nd.ents, puts_app, tl_cl, Nd.wd, Nd.hd]
    have ht : topM ⟨s.stk ++ [((i : Int), s.w, s.h)], s.w + plen p + (Nd.wds l : Int), s.h + (Nd.hds l : Int), puts (Nd.entss l (i + 1) (tlN rest)) s.out⟩ = ((i : Int), s.w, s.h) := by simp [topM]
    rw [ht, hp0, hc0]
    have hdec : decide (s.h + (Nd.hds l : Int) > s.h) = decide (0 < Nd.hds l) := by
      by_cases h0 : 0 < Nd.hds l
      · rw [decide_eq_true h0, decide_eq_true (by omega)]
      · rw [decide_eq_false h0, decide_eq_false (by omega)]
    have hw : s.w + ((0 : Nat) : Int) + (Nd.wds l : Int) - s.w = (Nd.wds l : Int) := by omega
    simp only [List.dropLast_concat, hdec, hw, puts, List.foldl_cons, List.foldl_nil]
    congr 1
    omega
theorem mrun_nds {T : Nat → Int} {d : List Lp} (hT : ∀ i, T i = (tlN (d.drop i) : Int)) : ∀ l : List Nd, Nd.oks l → ∀ (i : Nat) (rest : List Lp) (s : Ms), d.drop i = Nd.flats l ++ rest → mrun T i (Nd.flats l) s = ⟨s.stk, s.w + (Nd.wds l : Int), s.h + (Nd.hds l : Int), puts (Nd.entss l i (tlN rest)) s.out⟩
  | [], _, i, rest, s, hd => by
    rw [Nd.flats, mrun, Nd.wds, Nd.hds, Nd.entss]
    simp [puts]
  | x :: r, h, i, rest, s, hd => by
    simp only [Nd.oks] at h
    rw [Nd.flats, List.append_assoc] at hd
    have hd1 : d.drop (i + x.flat.length) = Nd.flats r ++ rest := drop_at hd
    rw [Nd.flats, mrun_app, mrun_nd hT x h.1 i (Nd.flats r ++ rest) s hd, mrun_nds hT r h.2 _ rest _ hd1, tl_nds r h.2, Nd.wds, Nd.hds, Nd.entss, puts_app]
    dsimp only
    congr 1 <;> omega
end
structure Ls where
  stk : List Gp
  out : ByteArray
  col : Int
def topL (s : Ls) : Gp := s.stk.getLast?.getD g0
def opG (W : Int) (x t : Gp) (col num : Int) : Gp := ⟨x.wd, x.tl, x.hard, t.brk && (x.hard || decide (col + x.wd + x.tl > W)), t.ind + num⟩
def lstep (W : Int) (g : List (Int × Gp)) (i : Nat) (p : Lp) (s : Ls) : Ls :=
  if p.kind = 5 then ⟨s.stk ++ [opG W ((gget (i : Int) g).getD g0) (topL s) s.col p.num], s.out, s.col⟩
  else if p.kind = 6 then ⟨s.stk.dropLast, s.out, s.col⟩
  else if p.kind = 4 ∨ ((topL s).brk = true ∧ p.kind ≠ 1) then ⟨s.stk, s.out ++ nlS (topL s).ind, (topL s).ind⟩
  else if p.kind = 2 then ⟨s.stk, s.out ++ ⟨#[32]⟩, s.col + 1⟩
  else ⟨s.stk, s.out ++ p.s, s.col + p.s.size⟩
def lrun (W : Int) (g : List (Int × Gp)) : Nat → List Lp → Ls → Ls
  | _, [], s => s
  | i, p :: r, s => lrun W g (i + 1) r (lstep W g i p s)
theorem lrun_app (W : Int) (g : List (Int × Gp)) : ∀ (a b : List Lp) (i : Nat) (s : Ls), lrun W g i (a ++ b) s = lrun W g (i + a.length) b (lrun W g i a s)
  | [], b, i, s => rfl
  | p :: a, b, i, s => by
    rw [List.cons_append, lrun, lrun, lrun_app W g a b (i + 1), List.length_cons, show i + 1 + a.length = i + (a.length + 1) by omega]
theorem lrun_snoc (W : Int) (g : List (Int × Gp)) {d : List Lp} {k : Nat} {p : Lp} (h : d[k]? = some p) (s : Ls) : lrun W g 0 (d.take (k + 1)) s = lstep W g k p (lrun W g 0 (d.take k) s) := by
  obtain ⟨hk, rfl⟩ := List.getElem?_eq_some_iff.1 h
  rw [List.take_succ_eq_append_getElem hk, lrun_app, List.length_take, Nat.min_eq_left (by omega), Nat.zero_add]
  rfl
theorem app_nilJ (a : ByteArray) : a ++ ⟨#[]⟩ = a := by
  apply ByteArray.ext
  simp [ByteArray.data_append]
theorem top_snoc (S : List Gp) (t : Gp) (o : ByteArray) (c : Int) : topL ⟨S ++ [t], o, c⟩ = t := by simp [topL]
mutual
theorem lrun_nd {W : Int} {g : List (Int × Gp)} : ∀ x : Nd, x.ok → ∀ (i : Nat) (a : Int) (S : List Gp) (t : Gp) (o : ByteArray) (c : Int), (∀ e ∈ x.ents i a, gget e.1 g = some e.2) → lrun W g i x.flat ⟨S ++ [t], o, c⟩ = ⟨S ++ [t], o ++ (x.lay W a t.ind c t.brk).1, (x.lay W a t.ind c t.brk).2⟩
  | .leaf p, h, i, a, S, t, o, c, hg => by
    simp only [Nd.ok] at h
    obtain ⟨ho, h5, h6⟩ := h
    have := ho.k1
    have := ho.k6
    rw [Nd.flat, lrun, lrun, lstep, if_neg h5, if_neg h6, top_snoc, Nd.lay]
    by_cases h1 : p.kind = 1
    · rw [if_neg (by omega), if_neg (by omega), if_pos h1]
    · rw [if_neg h1]
      by_cases hb : t.brk = true ∨ p.kind = 4
      · rw [if_pos hb, if_pos (by rcases hb with hb | hb; exact .inr ⟨hb, h1⟩; exact .inl hb)]
      · rw [if_neg hb, if_neg (by
          rintro (hc | ⟨hc, _⟩)
          · exact hb (.inr hc)
          · exact hb (.inl hc))]
        by_cases h2 : p.kind = 2
        · rw [if_pos h2, if_pos h2]
        · rw [if_neg h2, if_neg h2, ho.txt h1]
          simp [emp_size]
  | .grp p l, h, i, a, S, t, o, c, hg => by
    simp only [Nd.ok] at h
    obtain ⟨ho, h5, hl⟩ := h
    rw [Nd.ents] at hg
    have h1 := hg ((i : Int), ⟨(Nd.wds l : Int), a, decide (0 < Nd.hds l), false, 0⟩) (by simp)
    dsimp only at h1
    have hm := lrun_nds (W := W) (g := g) l hl (i + 1) a (S ++ [t]) (opG W ⟨(Nd.wds l : Int), a, decide (0 < Nd.hds l), false, 0⟩ t c p.num) o c (fun e he => hg e (List.mem_append_left _ he))
    rw [Nd.flat, lrun, lrun_app, lstep, if_pos h5, top_snoc, h1, Option.getD_some, hm, lrun, lrun, lstep, if_neg (by decide), if_pos (by rfl), Nd.lay]
    have hb : (opG W ⟨(Nd.wds l : Int), a, decide (0 < Nd.hds l), false, 0⟩ t c p.num).brk = (t.brk && (decide (Nd.wides 0 l < 0) || decide (c + Nd.wides 0 l + a > W))) := by
      rw [wides_eq l hl 0 (Int.le_refl _)]
      show (t.brk && (decide (0 < Nd.hds l) || decide (c + (Nd.wds l : Int) + a > W))) = _
      by_cases h0 : 0 < Nd.hds l
      · rw [decide_eq_true h0, if_pos h0]
        simp
      · rw [decide_eq_false h0, if_neg h0, Int.zero_add, decide_eq_false (show ¬ (Nd.wds l : Int) < 0 by omega)]
    have hi : (opG W ⟨(Nd.wds l : Int), a, decide (0 < Nd.hds l), false, 0⟩ t c p.num).ind = t.ind + p.num := rfl
    rw [hb, hi]
    simp only [List.dropLast_concat]
theorem lrun_nds {W : Int} {g : List (Int × Gp)} : ∀ l : List Nd, Nd.oks l → ∀ (i : Nat) (a : Int) (S : List Gp) (t : Gp) (o : ByteArray) (c : Int), (∀ e ∈ Nd.entss l i a, gget e.1 g = some e.2) → lrun W g i (Nd.flats l) ⟨S ++ [t], o, c⟩ = ⟨S ++ [t], o ++ (Nd.lays W l a t.ind c t.brk).1, (Nd.lays W l a t.ind c t.brk).2⟩
  | [], _, i, a, S, t, o, c, _ => by
    rw [Nd.flats, lrun, Nd.lays, app_nilJ]
  | x :: r, h, i, a, S, t, o, c, hg => by
    simp only [Nd.oks] at h
    rw [Nd.entss] at hg
    rw [Nd.flats, lrun_app, lrun_nd x h.1 i (aft r a) S t o c (fun e he => hg e (List.mem_append_left _ he)), lrun_nds r h.2 _ a S t _ _ (fun e he => hg e (List.mem_append_right _ he)), Nd.lays]
    dsimp only
    rw [ByteArray.append_assoc]
end
mutual
theorem ents_keys : ∀ (x : Nd) (i : Nat) (a : Int), (∀ e ∈ x.ents i a, (i : Int) ≤ e.1 ∧ e.1 < (i : Int) + (x.flat.length : Int)) ∧ ((x.ents i a).map (·.1)).Nodup
  | .leaf p, i, a => by simp [Nd.ents]
  | .grp p l, i, a => by
    obtain ⟨h1, h2⟩ := entss_keys l (i + 1) a
    rw [Nd.ents, Nd.flat]
    simp only [List.length_cons, List.length_append, List.length_nil]
    constructor
    · intro e he
      rcases List.mem_append.1 he with he | he
      · have := h1 e he
        omega
      · rw [List.mem_singleton.1 he]
        dsimp only
        omega
    · rw [List.map_append, List.nodup_append]
      refine ⟨h2, by simp, ?_⟩
      intro k hk k' hk' hkk
      obtain ⟨e, he, rfl⟩ := List.mem_map.1 hk
      have := h1 e he
      simp at hk'
      omega
theorem entss_keys : ∀ (l : List Nd) (i : Nat) (a : Int), (∀ e ∈ Nd.entss l i a, (i : Int) ≤ e.1 ∧ e.1 < (i : Int) + ((Nd.flats l).length : Int)) ∧ ((Nd.entss l i a).map (·.1)).Nodup
  | [], i, a => by simp [Nd.entss]
  | x :: r, i, a => by
    obtain ⟨h1, h2⟩ := ents_keys x i (aft r a)
    obtain ⟨h3, h4⟩ := entss_keys r (i + x.flat.length) a
    rw [Nd.entss, Nd.flats, List.length_append]
    constructor
    · intro e he
      rcases List.mem_append.1 he with he | he
      · have := h1 e he
        omega
      · have := h3 e he
        omega
    · rw [List.map_append, List.nodup_append]
      refine ⟨h2, h4, ?_⟩
      intro k hk k' hk' hkk
      obtain ⟨e, he, rfl⟩ := List.mem_map.1 hk
      obtain ⟨e', he', rfl⟩ := List.mem_map.1 hk'
      have := h1 e he
      have := h3 e' he'
      omega
end
theorem puts_other {k : Int} : ∀ (es o : List (Int × Gp)), k ∉ es.map (·.1) → gget k (puts es o) = gget k o
  | [], o, _ => rfl
  | e :: es, o, h => by
    rw [List.map_cons, List.mem_cons, not_or] at h
    show gget k (puts es (gput e.1 e.2 o)) = _
    rw [puts_other es _ h.2, gget_put, if_neg h.1]
theorem puts_mem : ∀ (es o : List (Int × Gp)), (es.map (·.1)).Nodup → ∀ e ∈ es, gget e.1 (puts es o) = some e.2
  | [], o, _, e, he => by cases he
  | e' :: es, o, h, e, he => by
    rw [List.map_cons, List.nodup_cons] at h
    show gget e.1 (puts es (gput e'.1 e'.2 o)) = _
    rcases List.mem_cons.1 he with rfl | he
    · rw [puts_other es _ h.1, gget_put, if_pos rfl]
    · exact puts_mem es _ h.2 e he
def ms0 : Ms := ⟨[], 0, 0, []⟩
def gT : Gp := ⟨0, 0, false, true, 0⟩
def ls0 : Ls := ⟨[gT], ⟨#[]⟩, 0⟩
def tlF (d : List Lp) (i : Nat) : Int := (tlN (d.drop i) : Int)
def layM (d : List Lp) (W : Int) : Ls := lrun W (mrun (tlF d) 0 d ms0).out 0 d ls0
/-- the program's text is the groups' text -/
theorem layM_eq {F : List Nd} (hF : Nd.oks F) (W : Int) : (layM (Nd.flats F) W).out = (Nd.lays W F 0 0 0 true).1 := by
  have hm := mrun_nds (T := tlF (Nd.flats F)) (d := Nd.flats F) (fun _ => rfl) F hF 0 [] ms0 (by simp)
  have hk := entss_keys F 0 ((tlN [] : Nat) : Int)
  have hl := lrun_nds (W := W) (g := puts (Nd.entss F 0 ((tlN [] : Nat) : Int)) []) F hF 0 ((tlN [] : Nat) : Int) [] gT ⟨#[]⟩ 0 (fun e he => puts_mem _ _ hk.2 e he)
  unfold layM
  rw [hm]
  show (lrun W (puts (Nd.entss F 0 ((tlN [] : Nat) : Int)) []) 0 (Nd.flats F) ⟨[] ++ [gT], ⟨#[]⟩, 0⟩).out = _
  rw [hl]
  show ⟨#[]⟩ ++ (Nd.lays W F 0 0 0 true).1 = _
  apply ByteArray.ext
  simp [ByteArray.data_append]
end Go.Proofs.Ytgjfiedepfjdcaa
namespace Go.Proofs.Ytgjfiedepfjdcaa
set_option maxRecDepth 100000 in
def tab : Tab :=
  (.node 44 ⟨1, 8, [.nilFunc], .other⟩ (.node 21 ⟨1, 4, [.int .i32 0], (.int .i32)⟩ (.node 11 ⟨1, 16, [.string ⟨#[]⟩], .string⟩ (.node 6 ⟨1, 1, [.int .u8 0], (.int .u8)⟩ (.node 3 ⟨1, 8, [.int .i64 0], (.int .i64)⟩ (.node 2 ⟨1, 8, [.int .i64 0], (.int .i64)⟩ (.node 1 ⟨1, 8, [.nilFunc], .other⟩ .nil .nil) .nil) (.node 5 ⟨1, 1, [.int .u8 0], (.int .u8)⟩ (.node 4 ⟨1, 1, [.bool false], .bool⟩ .nil .nil) .nil)) (.node 9 ⟨1, 16, [.string ⟨#[]⟩], .string⟩ (.node 8 ⟨4, 24, [.int .i64 0, .int .i64 0, .bool false, .int .u8 0], (.struct [(0, 1), (1, 1), (2, 1), (3, 1)])⟩ (.node 7 ⟨4, 24, [.int .i64 0, .int .i64 0, .bool false, .int .u8 0], (.struct [(0, 1), (1, 1), (2, 1), (3, 1)])⟩ .nil .nil) .nil) (.node 10 ⟨1, 16, [.string ⟨#[]⟩], .string⟩ .nil .nil))) (.node 16 ⟨1, 8, [.pointer none], .other⟩ (.node 14 ⟨2, 24, [.string ⟨#[]⟩, .int .u64 0], (.struct [(0, 1), (1, 1)])⟩ (.node 13 ⟨2, 24, [.string ⟨#[]⟩, .int .u64 0], (.struct [(0, 1), (1, 1)])⟩ (.node 12 ⟨1, 8, [.int .u64 0], (.int .u64)⟩ .nil .nil) .nil) (.node 15 ⟨1, 8, [.pointer none], .other⟩ .nil .nil)) (.node 19 ⟨1, 8, [.pointer none], (.struct [(0, 1)])⟩ (.node 18 ⟨1, 8, [.pointer none], (.struct [(0, 1)])⟩ (.node 17 ⟨1, 8, [.pointer none], .other⟩ .nil .nil) .nil) (.node 20 ⟨1, 16, [.nilIface], .other⟩ .nil .nil)))) (.node 33 ⟨1, 24, [.slice none 0 0], (.slice 5)⟩ (.node 28 ⟨1, 8, [.nilFunc], .other⟩ (.node 25 ⟨1, 8, [.nilFunc], .other⟩ (.node 23 ⟨1, 8, [.int .i64 0], (.int .i64)⟩ (.node 22 ⟨1, 24, [.slice none 0 0], (.slice 27)⟩ .nil .nil) .nil) (.node 27 ⟨3, 32, [.int .i64 0, .int .i64 0, .string ⟨#[]⟩], (.struct [(0, 1), (1, 1), (2, 1)])⟩ (.node 26 ⟨3, 32, [.int .i64 0, .int .i64 0, .string ⟨#[]⟩], (.struct [(0, 1), (1, 1), (2, 1)])⟩ .nil .nil) .nil)) (.node 31 ⟨1, 8, [.nilFunc], .other⟩ (.node 30 ⟨1, 8, [.map none], .other⟩ (.node 29 ⟨1, 8, [.nilFunc], .other⟩ .nil .nil) .nil) (.node 32 ⟨1, 8, [.pointer none], .other⟩ .nil .nil))) (.node 38 ⟨1, 24, [.slice none 0 0], (.slice 37)⟩ (.node 36 ⟨5, 32, [.int .i64 0, .int .i64 0, .bool false, .bool false, .int .i64 0], (.struct [(0, 1), (1, 1), (2, 1), (3, 1), (4, 1)])⟩ (.node 35 ⟨2, 32, [.pointer none, .slice none 0 0], (.struct [(0, 1), (1, 1)])⟩ (.node 34 ⟨2, 32, [.pointer none, .slice none 0 0], (.struct [(0, 1), (1, 1)])⟩ .nil .nil) .nil) (.node 37 ⟨5, 32, [.int .i64 0, .int .i64 0, .bool false, .bool false, .int .i64 0], (.struct [(0, 1), (1, 1), (2, 1), (3, 1), (4, 1)])⟩ .nil .nil)) (.node 42 ⟨1, 8, [.nilFunc], .other⟩ (.node 40 ⟨1, 16, [.nilIface], .other⟩ (.node 39 ⟨1, 16, [.nilIface], .other⟩ .nil .nil) .nil) (.node 43 ⟨1, 8, [.nilFunc], .other⟩ .nil .nil))))) (.node 69 ⟨1, 8, [.nilFunc], .other⟩ (.node 56 ⟨1, 8, [.int .u64 0], (.int .u64)⟩ (.node 51 ⟨1, 24, [.slice none 0 0], (.slice 3)⟩ (.node 48 ⟨1, 8, [.nilFunc], .other⟩ (.node 46 ⟨1, 24, [.slice none 0 0], (.slice 63)⟩ (.node 45 ⟨1, 8, [.nilFunc], .other⟩ .nil .nil) .nil) (.node 50 ⟨1, 8, [.nilFunc], .other⟩ (.node 49 ⟨1, 8, [.nilFunc], .other⟩ .nil .nil) .nil)) (.node 54 ⟨3, 24, [.int .i64 0, .int .i64 0, .int .i64 0], (.struct [(0, 1), (1, 1), (2, 1)])⟩ (.node 53 ⟨3, 24, [.int .i64 0, .int .i64 0, .int .i64 0], (.struct [(0, 1), (1, 1), (2, 1)])⟩ (.node 52 ⟨1, 24, [.slice none 0 0], (.slice 54)⟩ .nil .nil) .nil) (.node 55 ⟨1, 8, [.nilFunc], .other⟩ .nil .nil))) (.node 62 ⟨1, 8, [.nilFunc], .other⟩ (.node 60 ⟨1, 8, [.nilFunc], .other⟩ (.node 59 ⟨1, 8, [.nilFunc], .other⟩ (.node 58 ⟨1, 8, [.nilFunc], .other⟩ .nil .nil) .nil) (.node 61 ⟨1, 8, [.pointer none], .other⟩ .nil .nil)) (.node 65 ⟨5, 64, [.int .i64 0, .int .i64 0, .string ⟨#[]⟩, .slice none 0 0, .int .i64 0], (.struct [(0, 3), (3, 1), (4, 1)])⟩ (.node 64 ⟨5, 64, [.int .i64 0, .int .i64 0, .string ⟨#[]⟩, .slice none 0 0, .int .i64 0], (.struct [(0, 3), (3, 1), (4, 1)])⟩ (.node 63 ⟨1, 8, [.pointer none], .other⟩ .nil .nil) .nil) (.node 67 ⟨1, 8, [.nilFunc], .other⟩ .nil .nil)))) (.node 82 ⟨0, 0, [], (.array 0 16)⟩ (.node 77 ⟨1, 8, [.nilFunc], .other⟩ (.node 73 ⟨1, 8, [.int .u64 0], (.int .u64)⟩ (.node 72 ⟨1, 8, [.nilFunc], .other⟩ (.node 70 ⟨1, 4, [.int .u32 0], (.int .u32)⟩ .nil .nil) .nil) (.node 76 ⟨1, 8, [.nilFunc], .other⟩ (.node 75 ⟨1, 8, [.nilFunc], .other⟩ .nil .nil) .nil)) (.node 80 ⟨4, 40, [.pointer none, .pointer none, .pointer none, .string ⟨#[]⟩], (.struct [(0, 1), (1, 1), (2, 1), (3, 1)])⟩ (.node 79 ⟨1, 8, [.nilFunc], .other⟩ (.node 78 ⟨1, 8, [.nilFunc], .other⟩ .nil .nil) .nil) (.node 81 ⟨4, 40, [.pointer none, .pointer none, .pointer none, .string ⟨#[]⟩], (.struct [(0, 1), (1, 1), (2, 1), (3, 1)])⟩ .nil .nil))) (.node 87 ⟨1, 8, [.nilFunc], .other⟩ (.node 85 ⟨1, 1, [.int .u8 0], (.int .u8)⟩ (.node 84 ⟨0, 0, [], (.struct [(0, 0)])⟩ (.node 83 ⟨0, 0, [], (.struct [(0, 0)])⟩ .nil .nil) .nil) (.node 86 ⟨1, 1, [.int .u8 0], (.int .u8)⟩ .nil .nil)) (.node 90 ⟨11, 48, [.int .u64 0, .int .u64 0, .int .u32 0, .int .u8 0, .int .u8 0, .int .u8 0, .int .u8 0, .nilFunc, .pointer none, .int .i32 0, .int .i32 0], (.struct [(0, 1), (1, 1), (2, 1), (3, 1), (4, 1), (5, 1), (6, 1), (7, 1), (8, 1), (9, 1), (10, 1)])⟩ (.node 89 ⟨1, 4, [.int .i32 0], (.int .i32)⟩ (.node 88 ⟨1, 4, [.int .i32 0], (.int .i32)⟩ .nil .nil) .nil) (.node 91 ⟨11, 48, [.int .u64 0, .int .u64 0, .int .u32 0, .int .u8 0, .int .u8 0, .int .u8 0, .int .u8 0, .nilFunc, .pointer none, .int .i32 0, .int .i32 0], (.struct [(0, 1), (1, 1), (2, 1), (3, 1), (4, 1), (5, 1), (6, 1), (7, 1), (8, 1), (9, 1), (10, 1)])⟩ .nil .nil))))))
set_option maxRecDepth 100000 in
theorem tabOkB : tab.okB Try.prog = true := by kernel_rfl
theorem tok : TabOk Try.prog tab := tab_ok tabOkB
end Go.Proofs.Ytgjfiedepfjdcaa
namespace Go.Proofs.Ytgjfiedepfjdcaa
open Go.RowKit
theorem liesAt_at {P : Program} {e : TypeId} (hc : P.cellsOf e = 1) (count off n : Nat) (hn : off + n ≤ count) : liesAt P P.depth e count off e n = true := by
  have hd : P.depth = (2 * (P.types.size + Made.depth) + 1) + 1 := rfl
  rw [hd]
  simp only [liesAt, Bool.or_eq_true]
  left
  rw [hd]
  simp [rowAt, hc, hn, sameLayout, Nat.mod_one]
theorem freezeN_blk (w : World) (a : Addr) (n b : Nat) (h : b ≠ a.block) : (w.freeze a n).heap[b]? = w.heap[b]? := by
  unfold World.freeze
  split
  · rfl
  · simp [Array.getElem?_modify, Ne.symm h]
theorem freezeN_size (w : World) (a : Addr) (n : Nat) : (w.freeze a n).heap.size = w.heap.size := by
  unfold World.freeze
  split
  · rfl
  · simp
theorem freezeN_cells (w : World) (a : Addr) (n : Nat) (p : Addr) : (w.freeze a n).cell? p = w.cell? p := by
  unfold World.freeze
  split
  · rfl
  unfold World.cell?
  simp only [Array.getElem?_modify]
  by_cases h : a.block = p.block
  · rw [if_pos h]
    cases hb : w.heap[p.block]? with
    | none => rfl
    | some o =>
      simp only [Option.map_some]
      cases o <;> rfl
  · rw [if_neg h]
theorem freezeN_os (w : World) (a : Addr) (n : Nat) : (w.freeze a n).os = w.os ∧ (w.freeze a n).tape = w.tape ∧ (w.freeze a n).output = w.output := by
  unfold World.freeze
  split <;> exact ⟨rfl, rfl, rfl⟩
theorem run_unsafeString_at {P : Program} (w : World) (pt it ty e : TypeId) (hp : P.underlying pt = some (.pointer e)) (hc : P.cellsOf e = 1) (g off cells : Nat) (hsh : w.shape? g = some (e, cells)) (l : List UInt8) (h0 : l ≠ []) (hn : off + l.length ≤ cells) (h63 : l.length ≤ 9223372036854775807)
    (hcell : ∀ j x, l[j]? = some x → w.cell? ((⟨g, off, none⟩ : Addr).add j) = some (.int .u8 x.toNat)) :
    (Builtin.unsafeString_ #[pt, it] ty #[.pointer (some ⟨g, off, none⟩), .int .i64 l.length]).run P w = .ok (.string ⟨l.toArray⟩) (w.freeze ⟨g, off, none⟩ l.length) := by
  have hl : l.length ≠ 0 := by simpa using h0
  have hlb := Go.Lib.run_loadBytes (P := P) w l ⟨g, off, none⟩ .empty hcell
  have hlies := liesAt_at (P := P) hc (cells / P.cellsOf e) off l.length (by rw [hc]; simpa using hn)
  have h63' : ¬ (9223372036854775807 : Int) < (l.length : Int) := by omega
  have hmax : IntKind.i64.max = 9223372036854775807 := rfl
  have hneg : ¬ (l.length : Int) < 0 := by omega
  change Sem.run P (asInt (Value.int .i64 l.length) >>= _) w = _
  simp [asInt, asIntOf, hmax, h63', hneg, hl, variablesAt, hsh, elemOf, run_underlying hp, hlies, hlb]
section
variable {P : Program} {F : Frm} {L : Tab} {d : Option Tmp} {ty : TypeId} {pos : String} {aft : Array Edge} {g : Option (Nat × Bool)} {ρ : Operand → AV} {hp : List Blk} {K : AV → List Blk → Prop}
theorem zUs {t pt it e : TypeId} {x y : Operand} {i : Nat} {v : Value} {l : List UInt8} (hl : l ≠ []) (h : K (.c (.lit (.string ⟨l.toArray⟩))) (hp.set i .dead)) (hx : ρ x = .eptr i v 0 := by exact rfl) (hi : hp[i]? = some (.row v e 1 l.length (byts l)) := by exact rfl) (hy : ρ y = .c (.lit (.int .i64 (l.length : Int))) := by exact rfl) (hpt : P.underlying pt = some (.pointer e) := by kernel_rfl) (hc : P.cellsOf e = 1 := by kernel_rfl) : LO P F ⟨d, .call { callee := .builtin .unsafeString, args := #[x, y], argTypes := #[pt, it] }, t, pos, aft, g⟩ ρ hp K := by
  refine ⟨fun M ev w he hh => ?_⟩
  have h1 := he x (by simp [Op.operands, Call.operands])
  have h2 := he y (by simp [Op.operands, Call.operands])
  rw [hx] at h1
  rw [hy] at h2
  simp only [RA, RT] at h1 h2
  obtain ⟨xs, ho, hxs, -⟩ := hh.at_ i _ hi
  obtain rfl := byts_of hxs
  obtain ⟨ad, n', c', rfl, h1⟩ := h1
  rcases ho.2 with ⟨h0, _⟩ | ⟨gg, off, cap, cur, hv, hg, hnc, hcm, hcs, htk⟩
  · cases h0
  obtain ⟨rfl, rfl, rfl⟩ : ad = ⟨gg, off, none⟩ ∧ n' = l.length ∧ c' = cap := by
    injection hv with a b c
    injection a with a
    exact ⟨a, b, c⟩
  rw [show (⟨gg, off, none⟩ : Addr).add 0 = ⟨gg, off, none⟩ by simp [Addr.add]] at h1
  have hsh : w.shape? gg = some (e, cur.size) := by simp [World.shape?, hg]
  have hcell : ∀ j x, l[j]? = some x → w.cell? ((⟨gg, off, none⟩ : Addr).add j) = some (.int .u8 x.toNat) := fun j x hx => ho.cells j _ (by simp [bvs, bv, hx])
  have hrun := run_unsafeString_at (P := P) w pt it t e hpt hc gg off cur.size hsh l hl (by omega) (by unfold maxLen at hcm; omega) hcell
  have hrun2 : (execOp ev ⟨d, .call { callee := .builtin .unsafeString, args := #[x, y], argTypes := #[pt, it] }, t, pos, aft, g⟩).run P w = .ok (.value (.string ⟨l.toArray⟩)) (w.freeze ⟨gg, off, none⟩ l.length) := by
    simp [execOp, resolve, invoke, builtin, h1, h2, hrun]
  rw [hrun2]
  have hmay := (hh.out i _ gg hi rfl).1
  obtain ⟨h2', h3⟩ := heap_frz hh hi
  have hlt : i < hp.length := (List.getElem?_eq_some_iff.1 hi).1
  have hno : ∀ (j : Nat) (y : Blk), (hp.set i .dead)[j]? = some y → y.blk ≠ some gg := by
    intro j y hy hyb
    by_cases hj : i = j
    · subst hj
      rw [List.getElem?_set_self hlt] at hy
      cases hy
      cases hyb
    · rw [List.getElem?_set_ne hj] at hy
      exact hj (hh.sep i j _ y gg hi hy rfl hyb)
  have hext : Ext F.may M (frB M (Value.ownBlock (.slice (some ⟨gg, off, none⟩) l.length c')) w) := by
    refine ⟨frB_sub _ _ _, fun p z hz => ?_⟩
    cases hm : M p with
    | some z' =>
      have := frB_sub M (Value.ownBlock (.slice (some ⟨gg, off, none⟩) l.length c')) w p z' hm
      rw [hz] at this
      exact .inl (by rw [← this])
    | none =>
      obtain ⟨hg', _⟩ := frB_new hz hm
      exact .inr (hh.out i _ p.block hi hg').1
  refine ⟨_, _, _, h, hext, ?_, by simp only [RA, RT]⟩
  obtain ⟨e1, e2, e3⟩ := freezeN_os w ⟨gg, off, none⟩ l.length
  exact heap_mark h2' gg hmay hno e1 e2 e3 (freezeN_size w _ _) (fun b hb => freezeN_blk w _ _ b hb) (freezeN_cells w _ _)
end
/-- the builder in its block, its bytes in theirs -/
def bB (f : Bool) (a : Nat) (v : Value) (l : List UInt8) : List Blk := [.box a 35 [if f then .ptr 0 a 0 else .c (.lit (.pointer none)), .own 1 v], .row v 5 1 l.length (byts l)]
def NilIf (l : List UInt8) (v : Value) : Prop := l = [] → v = .slice none 0 0
set_option maxRecDepth 100000 in
set_option maxHeartbeats 1000000 in
theorem copyCheck_ag (f : Bool) (a : Nat) (v : Value) (l : List UInt8) : AG Try.prog 17 [.ptr 0 a 0] (bB f a v l) (fun r hs => r = .tup [] ∧ hs = bB true a v l) := by
  cases f
  · unfold bB
    simp only [if_true, Bool.false_eq_true, if_false]
    refine ag_enter (2) tok Try.func17 Try.ntmps17 Try.results17 rfl (by kernel_rfl) rfl fun F => ?_
    repeat (first | refine gG ?_)
    refine zTu 35 1 ?_
    repeat (first | refine gG ?_)
    refine zNes ?_ rfl rfl Try.func25 (by kernel_rfl) (by kernel_rfl) (by kernel_rfl) (by kernel_rfl)
    repeat (first | refine gG ?_)
    refine zFu 35 ?_
    repeat (first | refine gG ?_)
    refine zG ?_
    exact ⟨rfl, rfl⟩
  · unfold bB
    simp only [if_true]
    refine ag_enter (2) tok Try.func17 Try.ntmps17 Try.results17 rfl (by kernel_rfl) rfl fun F => ?_
    repeat (first | refine gG ?_)
    refine zPn 35 ?_
    repeat (first | refine gG ?_)
    refine zG ?_
    exact ⟨rfl, rfl⟩
end Go.Proofs.Ytgjfiedepfjdcaa
namespace Go.Proofs.Ytgjfiedepfjdcaa
open Go.RowKit
theorem dl_size (s : ByteArray) : s.data.toList.length = s.size := Array.length_toList
set_option maxRecDepth 100000 in
set_option maxHeartbeats 1000000 in
theorem writeString_ag (f : Bool) (a : Nat) (v : Value) (l : List UInt8) (s : ByteArray) (hl : l.length + s.size ≤ 140737488355328) (hn : NilIf l v) : AG Try.prog 9 [.ptr 0 a 0, .c (.lit (.string s))] (bB f a v l) (fun r hs => ∃ v', NilIf (l ++ s.data.toList) v' ∧ r = .tup [.c (.lit (.int .i64 s.size)), .c (.lit .nilIface)] ∧ hs = bB true a v' (l ++ s.data.toList)) := by
  have hcc := copyCheck_ag f a v l
  unfold bB at *
  by_cases hs : s.size = 0
  · have he : s.data.toList = [] := List.eq_nil_of_length_eq_zero (by rw [dl_size]; exact hs)
    rw [he, List.append_nil]
    refine ag_enter (2) tok Try.func9 Try.ntmps9 Try.results9 rfl (by kernel_rfl) rfl fun F => ?_
    repeat (first | refine gG ?_ | refine zN1 (fun hlen => ?_) | refine zN2 (fun hlen => ?_) | refine zAp (fun _ => ?_))
    refine zCallG [0, 1] hcc ?_
    rintro _ _ ⟨rfl, rfl⟩
    refine ⟨.tup [], _, re_refl, rfl, rfl, ?_⟩
    repeat (first | refine gG ?_ | refine zN1 (fun hlen => ?_) | refine zN2 (fun hlen => ?_) | refine zAp (fun _ => ?_))
    refine zApE hs ?_
    repeat (first | refine gG ?_ | refine zN1 (fun hlen => ?_) | refine zN2 (fun hlen => ?_) | refine zAp (fun _ => ?_))
    refine zG ?_
    exact ⟨v, hn, rfl, rfl⟩
  · refine ag_enter (2) tok Try.func9 Try.ntmps9 Try.results9 rfl (by kernel_rfl) rfl fun F => ?_
    repeat (first | refine gG ?_ | refine zN1 (fun hlen => ?_) | refine zN2 (fun hlen => ?_) | refine zAp (fun _ => ?_))
    refine zCallG [0, 1] hcc ?_
    rintro _ _ ⟨rfl, rfl⟩
    refine ⟨.tup [], _, re_refl, rfl, rfl, ?_⟩
    repeat (first | refine gG ?_ | refine zN1 (fun hlen => ?_) | refine zN2 (fun hlen => ?_) | refine zAp (fun _ => ?_))
    refine zAps hl (fun v' => ?_)
    repeat (first | refine gG ?_ | refine zN1 (fun hlen => ?_) | refine zN2 (fun hlen => ?_) | refine zAp (fun _ => ?_))
    refine zG ?_
    refine ⟨v', fun h0 => ?_, rfl, ?_⟩
    · have := congrArg List.length h0
      rw [List.length_append, dl_size, List.length_nil] at this
      omega
    · rw [byts_app, List.length_append, dl_size]
set_option maxRecDepth 100000 in
set_option maxHeartbeats 1000000 in
theorem bString_ag (f : Bool) (a : Nat) (v : Value) (l : List UInt8) (hn : NilIf l v) : AG Try.prog 11 [.ptr 0 a 0] (bB f a v l) (fun r hs => r = .c (.lit (.string ⟨l.toArray⟩)) ∧ ∃ x y, hs = [x, y]) := by
  unfold bB
  by_cases h0 : l = []
  · obtain rfl := hn h0
    subst h0
    cases f
    · simp only [Bool.false_eq_true, if_false]
      refine ag_enter (2) tok Try.func11 Try.ntmps11 Try.results11 rfl (by kernel_rfl) rfl fun F => ?_
      repeat (first | refine gG ?_ | refine zN1 (fun hlen => ?_) | refine zN2 (fun hlen => ?_))
      refine ac_draw [1, 1, 1, 1, 1, 1, 1, 1, 1, 1, 1, 1] [0, 1, 2, 3, 4, 5, 6, 7, 8, 9, 10, 11] (by kernel_rfl) (by kernel_rfl) ?_
      refine gW ?_
      apply w_q; (focus exact rfl); (focus exact rfl); focus (intro _; (refine zSdN ?_); exact det_refl)
      refine gW ?_
      apply w_q; (focus exact rfl); (focus exact rfl); focus (intro _; (refine zUsN ?_); exact det_refl)
      refine gW ?_
      refine w_nil ?_
      repeat (first | refine gG ?_ | refine zN1 (fun hlen => ?_) | refine zN2 (fun hlen => ?_))
      refine zG ?_
      exact ⟨rfl, _, _, rfl⟩
    · simp only [if_true]
      refine ag_enter (2) tok Try.func11 Try.ntmps11 Try.results11 rfl (by kernel_rfl) rfl fun F => ?_
      repeat (first | refine gG ?_ | refine zN1 (fun hlen => ?_) | refine zN2 (fun hlen => ?_))
      refine ac_draw [1, 1, 1, 1, 1, 1, 1, 1, 1, 1, 1, 1] [0, 1, 2, 3, 4, 5, 6, 7, 8, 9, 10, 11] (by kernel_rfl) (by kernel_rfl) ?_
      refine gW ?_
      apply w_q; (focus exact rfl); (focus exact rfl); focus (intro _; (refine zSdN ?_); exact det_refl)
      refine gW ?_
      apply w_q; (focus exact rfl); (focus exact rfl); focus (intro _; (refine zUsN ?_); exact det_refl)
      refine gW ?_
      refine w_nil ?_
      repeat (first | refine gG ?_ | refine zN1 (fun hlen => ?_) | refine zN2 (fun hlen => ?_))
      refine zG ?_
      exact ⟨rfl, _, _, rfl⟩
  · have hpos : 0 < l.length := List.length_pos_iff.2 h0
    cases f
    · simp only [Bool.false_eq_true, if_false]
      refine ag_enter (2) tok Try.func11 Try.ntmps11 Try.results11 rfl (by kernel_rfl) rfl fun F => ?_
      repeat (first | refine gG ?_ | refine zN1 (fun hlen => ?_) | refine zN2 (fun hlen => ?_))
      refine ac_draw [1, 1, 1, 1, 1, 1, 1, 1, 1, 1, 2, 1] [0, 1, 2, 3, 4, 5, 6, 7, 8, 9, 10, 11] (by kernel_rfl) (by kernel_rfl) ?_
      refine gW ?_
      apply w_q; (focus exact rfl); (focus exact rfl); focus (intro _; (refine zSd hpos ?_); exact det_refl)
      refine gW ?_
      apply w_l; (focus exact rfl); (focus exact rfl); (refine zUs h0 ?_)
      refine gW ?_
      refine w_nil ?_
      repeat (first | refine gG ?_ | refine zN1 (fun hlen => ?_) | refine zN2 (fun hlen => ?_))
      refine zG ?_
      exact ⟨rfl, _, _, rfl⟩
    · simp only [if_true]
      refine ag_enter (2) tok Try.func11 Try.ntmps11 Try.results11 rfl (by kernel_rfl) rfl fun F => ?_
      repeat (first | refine gG ?_ | refine zN1 (fun hlen => ?_) | refine zN2 (fun hlen => ?_))
      refine ac_draw [1, 1, 1, 1, 1, 1, 1, 1, 1, 1, 2, 1] [0, 1, 2, 3, 4, 5, 6, 7, 8, 9, 10, 11] (by kernel_rfl) (by kernel_rfl) ?_
      refine gW ?_
      apply w_q; (focus exact rfl); (focus exact rfl); focus (intro _; (refine zSd hpos ?_); exact det_refl)
      refine gW ?_
      apply w_l; (focus exact rfl); (focus exact rfl); (refine zUs h0 ?_)
      refine gW ?_
      refine w_nil ?_
      repeat (first | refine gG ?_ | refine zN1 (fun hlen => ?_) | refine zN2 (fun hlen => ?_))
      refine zG ?_
      exact ⟨rfl, _, _, rfl⟩
end Go.Proofs.Ytgjfiedepfjdcaa
namespace Go.Proofs.Ytgjfiedepfjdcaa
open Go.RowKit
theorem contains_af (s : ByteArray) : AF Try.prog 12 [.lit (.string s), .lit (.string ⟨#[10]⟩)] (· = .lit (.bool (nlB s))) := by
  refine ⟨⟨_, Try.func12, by kernel_rfl, by kernel_rfl⟩, fun M w vs hG hM hvs => ?_⟩
  simp only [RTs, RT] at hvs
  obtain ⟨x, r, rfl, rfl, y, r2, rfl, rfl, rfl⟩ := hvs
  refine (lib_strings_Contains_one s 10 w).mono fun e w' ⟨he, hw⟩ => ?_
  subst he
  subst hw
  exact ⟨_, _, M, rfl, rfl, Ext.refl _ _, hM, by simp only [RT]; rfl, Below.refl _ _⟩
theorem spc_rep : ∀ n : Nat, Lib.repeatL [32] n = List.replicate n 32
  | 0 => rfl
  | n + 1 => by rw [Lib.repeatL, spc_rep n, List.replicate_succ]; rfl
theorem repeat_af (c : Int) (h0 : 0 ≤ c) (h1 : c ≤ 1048576) : AF Try.prog 10 [.lit (.string ⟨#[32]⟩), .lit (.int .i64 c)] (· = .lit (.string (spc c))) := by
  refine ⟨⟨_, Try.func10, by kernel_rfl, by kernel_rfl⟩, fun M w vs hG hM hvs => ?_⟩
  simp only [RTs, RT] at hvs
  obtain ⟨x, r, rfl, rfl, y, r2, rfl, rfl, rfl⟩ := hvs
  have hc : ((c.toNat : Nat) : Int) = c := by omega
  have hs : (⟨#[32]⟩ : ByteArray).size = 1 := rfl
  have h := lib_strings_Repeat ⟨#[32]⟩ c.toNat w (by omega) (by rw [hs]; omega)
  rw [hc] at h
  refine h.mono fun e w' ⟨he, hb⟩ => ?_
  subst he
  have hl : (⟨#[32]⟩ : ByteArray).data.toList = [32] := rfl
  rw [hl, spc_rep]
  exact ⟨_, _, M, rfl, rfl, Ext.refl _ _, hM.below hb, by simp only [RT]; rfl, hb⟩
theorem spc_size (n : Int) : (spc n).size = n.toNat := by
  unfold spc
  show (List.replicate n.toNat (32 : UInt8)).toArray.size = _
  simp
end Go.Proofs.Ytgjfiedepfjdcaa
