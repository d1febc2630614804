/-
  Texts of this proof, part 2: Ab3 Ab4 Ab5 Ab6 Ab7.
-/
import Derived.Test.YtgjfiedepfjdcaaQLayoutLays1
import Derived.IntWalk
import Derived.Laws.IdiomRangeMap
import Derived.Laws.Strings2
import Derived.WideKeyEntry
namespace Go.Proofs.Ytgjfiedepfjdcaa
open Go.RowKit
inductive TD where
  | other
  | slice (e : TypeId)
  | struct (fs : List (Nat × Nat))
  | int (k : IntKind)
  | bool
  | string
  | array (len : Nat) (e : TypeId)
structure TI where
  size : Nat
  bytes : Nat
  zero : List Value
  d : TD
def TI.agg (i : TI) : Bool := match i.d with | .struct _ => true | .array _ _ => true | _ => false
inductive Tab where
  | nil
  | node (k : Nat) (i : TI) (l r : Tab)
def Tab.look (t : Nat) : Tab → Option TI
  | .nil => none
  | .node k i l r => cond (Nat.beq t k) (some i) (cond (Nat.blt t k) (l.look t) (r.look t))
def veq : Value → Value → Bool
  | .bool a, .bool b => a == b
  | .int k a, .int k' b => k == k' && a == b
  | .string a, .string b => a.size == 0 && b.size == 0
  | .pointer none, .pointer none => true
  | .slice none 0 0, .slice none 0 0 => true
  | .map none, .map none => true
  | .nilFunc, .nilFunc => true
  | .nilIface, .nilIface => true
  | _, _ => false
theorem veq_eq : ∀ {a b : Value}, veq a b = true → a = b
  | .bool a, .bool b, h => by simp [veq] at h; rw [h]
  | .int k a, .int k' b, h => by simp [veq] at h; rw [h.1, h.2]
  | .string a, .string b, h => by
    simp [veq] at h
    rw [h.1, h.2]
  | .pointer none, .pointer none, _ => rfl
  | .slice none 0 0, .slice none 0 0, _ => rfl
  | .map none, .map none, _ => rfl
  | .nilFunc, .nilFunc, _ => rfl
  | .nilIface, .nilIface, _ => rfl
def veqs : List Value → List Value → Bool
  | [], [] => true
  | a :: l, b :: r => veq a b && veqs l r
  | _, _ => false
theorem veqs_eq : ∀ {l r : List Value}, veqs l r = true → l = r
  | [], [], _ => rfl
  | a :: l, b :: r, h => by
    simp only [veqs, Bool.and_eq_true] at h
    rw [veq_eq h.1, veqs_eq h.2]
  | [], _ :: _, h => by cases h
  | _ :: _, [], h => by cases h
def fldsB (P : Program) : List Field → List (Nat × Nat) → Bool
  | [], [] => true
  | f :: l, (o, s) :: r => f.offset == o && (P.info? f.type).map (·.size) == some s && fldsB P l r
  | _, _ => false
def descB (P : Program) : TypeDesc → TD → Bool
  | .slice e, .slice e' => e == e'
  | .struct fs, .struct l => fldsB P fs.toList l
  | .int k, .int k' => k == k'
  | .bool, .bool => true
  | .string, .string => true
  | .array n e, .array n' e' => n == n' && e == e'
  | .pointer _, .other => true
  | .map _ _, .other => true
  | .func _ _ _, .other => true
  | .interface _, .other => true
  | _, _ => false
def entB (P : Program) (t : TypeId) (i : TI) : Bool :=
  (match P.info? t with
   | some inf => inf.size == i.size && inf.bytes == i.bytes && (match inf.zero with | some z => veqs z.cells.toList i.zero && (z.cells.size == i.size) && i.zero.all (·.oneCell') && ((match z with | .agg _ => true | _ => false) == i.agg) | none => false)
   | none => false) && (match P.underlying t with | some d => descB P d i.d | none => false)
def Tab.okB (P : Program) : Tab → Bool
  | .nil => true
  | .node k i l r => entB P k i && l.okB P && r.okB P
def TabOk (P : Program) (L : Tab) : Prop := ∀ t i, L.look t = some i → entB P t i = true
theorem tab_ok {P : Program} : ∀ {L : Tab}, L.okB P = true → TabOk P L
  | .nil, _, t, i, h => by simp [Tab.look] at h
  | .node k j l r, hk, t, i, h => by
    simp only [Tab.okB, Bool.and_eq_true] at hk
    simp only [Tab.look] at h
    cases hc : Nat.beq t k with
    | true =>
      rw [hc] at h
      simp only [cond_true, Option.some.injEq] at h
      rw [Nat.eq_of_beq_eq_true hc, ← h]; exact hk.1.1
    | false =>
      rw [hc] at h
      simp only [cond_false] at h
      cases hb : Nat.blt t k with
      | true => rw [hb] at h; exact tab_ok hk.1.2 t i h
      | false => rw [hb] at h; exact tab_ok hk.2 t i h
section
variable {P : Program} {F : Frm} {L : Tab}
theorem TabOk.info (hL : TabOk P L) {t : TypeId} {i : TI} (h : L.look t = some i) : ∃ inf z, P.info? t = some inf ∧ inf.size = i.size ∧ inf.bytes = i.bytes ∧ inf.zero = some z ∧ z.cells.toList = i.zero ∧ (z.cells.size = i.size ∧ OneAll i.zero) ∧ ((match z with | .agg _ => true | _ => false) = i.agg) := by
  have := hL t i h
  simp only [entB, Bool.and_eq_true] at this
  obtain ⟨h1, _⟩ := this
  split at h1
  · rename_i inf hinf
    simp only [Bool.and_eq_true, beq_iff_eq] at h1
    obtain ⟨⟨h2, h3⟩, h4⟩ := h1
    split at h4
    · rename_i z hz
      simp only [Bool.and_eq_true, beq_iff_eq] at h4
      exact ⟨inf, z, hinf, h2, h3, hz, veqs_eq h4.1.1.1, ⟨h4.1.1.2, fun x hx => List.all_eq_true.1 h4.1.2 x hx⟩, h4.2⟩
    · cases h4
  · cases h1
theorem TabOk.desc (hL : TabOk P L) {t : TypeId} {i : TI} (h : L.look t = some i) : ∃ d, P.underlying t = some d ∧ descB P d i.d = true := by
  have := hL t i h
  simp only [entB, Bool.and_eq_true] at this
  obtain ⟨_, h1⟩ := this
  split at h1
  · exact ⟨_, by assumption, h1⟩
  · cases h1
theorem TabOk.sizeOf (hL : TabOk P L) {t : TypeId} {i : TI} (h : L.look t = some i) (w : World) : (Go.sizeOf t).run P w = .ok i.size w := by
  obtain ⟨inf, _, h1, h2, _⟩ := hL.info h
  simp [Go.sizeOf, typeInfo, h1, h2]
theorem TabOk.zero (hL : TabOk P L) {t : TypeId} {i : TI} (h : L.look t = some i) : ∃ z, (∀ w, (zeroValue t).run P w = .ok z w) ∧ z.cells.toList = i.zero ∧ z.cells.size = i.size ∧ OneAll i.zero := by
  obtain ⟨inf, z, h1, _, _, h3, h4, h5, _⟩ := hL.info h
  exact ⟨z, fun w => by simp [zeroValue, typeInfo, h1, h3], h4, h5⟩
theorem TabOk.isAgg (hL : TabOk P L) {t : TypeId} {i : TI} (h : L.look t = some i) (w : World) : (Go.isAgg t).run P w = .ok i.agg w := by
  obtain ⟨d, h1, h2⟩ := hL.desc h
  simp only [Go.isAgg, Sem.run_bind, run_underlying h1, Result.andThen_ok]
  cases hd : i.d <;> rw [hd] at h2 <;> cases d <;> simp [descB] at h2 <;> simp [TI.agg, hd]
theorem TabOk.slice (hL : TabOk P L) {t e : TypeId} {i : TI} (h : L.look t = some i) (hd : i.d = .slice e) : P.underlying t = some (.slice e) := by
  obtain ⟨d, h1, h2⟩ := hL.desc h
  rw [hd] at h2
  cases d <;> simp [descB] at h2
  rw [h1, h2]
theorem TabOk.string (hL : TabOk P L) {t : TypeId} {i : TI} (h : L.look t = some i) (hd : i.d = .string) : P.underlying t = some .string := by
  obtain ⟨d, h1, h2⟩ := hL.desc h
  rw [hd] at h2
  cases d <;> simp [descB] at h2
  exact h1
theorem TabOk.int (hL : TabOk P L) {t : TypeId} {k : IntKind} {i : TI} (h : L.look t = some i) (hd : i.d = .int k) : P.underlying t = some (.int k) := by
  obtain ⟨d, h1, h2⟩ := hL.desc h
  rw [hd] at h2
  cases d <;> simp [descB] at h2
  rw [h1, h2]
theorem flds_get : ∀ {l : List Field} {r : List (Nat × Nat)} {k o s : Nat}, fldsB P l r = true → r[k]? = some (o, s) → ∃ f, l[k]? = some f ∧ f.offset = o ∧ (P.info? f.type).map (·.size) = some s
  | [], [], _, _, _, _, h => by simp at h
  | f :: l, (o', s') :: r, 0, o, s, hb, h => by
    simp only [fldsB, Bool.and_eq_true, beq_iff_eq] at hb
    simp only [List.getElem?_cons_zero, Option.some.injEq, Prod.mk.injEq] at h
    exact ⟨f, rfl, hb.1.1.trans h.1, hb.1.2.trans (by rw [h.2])⟩
  | f :: l, (o', s') :: r, k + 1, o, s, hb, h => by
    simp only [fldsB, Bool.and_eq_true] at hb
    obtain ⟨g, h1, h2⟩ := flds_get (k := k) hb.2 (by simpa using h)
    exact ⟨g, by simpa using h1, h2⟩
  | [], _ :: _, _, _, _, hb, _ => by cases hb
  | _ :: _, [], _, _, _, hb, _ => by cases hb
theorem TabOk.field (hL : TabOk P L) {t : TypeId} {i : TI} {fs : List (Nat × Nat)} (h : L.look t = some i) (hd : i.d = .struct fs) {k o s : Nat} (hk : fs[k]? = some (o, s)) :
    ∃ fields f, P.underlying t = some (.struct fields) ∧ fields[k]? = some f ∧ f.offset = o ∧ (P.info? f.type).map (·.size) = some s := by
  obtain ⟨d, h1, h2⟩ := hL.desc h
  rw [hd] at h2
  cases d <;> simp [descB] at h2
  rename_i fields
  obtain ⟨f, h3, h4⟩ := flds_get h2 hk
  exact ⟨fields, f, h1, by simpa using h3, h4⟩
def frz (M : Mm) (B : Nat) (w : World) : Mm := fun p =>
  match M p with
  | some v => some v
  | none => if B ≤ p.block then (w.cell? p).bind fun v => if v.oneCell' = true then some v else none else none
theorem frz_sub (M : Mm) (B : Nat) (w : World) : Sub M (frz M B w) := fun p v h => by simp [frz, h]
theorem frz_ok {M : Mm} {w : World} (h : MemOk M w) (B : Nat) : MemOk (frz M B w) w := by
  intro p v hp
  unfold frz at hp
  split at hp
  · rename_i u hu
    obtain rfl : u = v := by injection hp
    exact h p u hu
  · split at hp
    · cases hc : w.cell? p with
      | none => rw [hc] at hp; simp at hp
      | some u =>
        rw [hc] at hp
        simp only [Option.bind_some] at hp
        split at hp
        · injection hp with hp; subst hp; exact ⟨rfl, by assumption⟩
        · cases hp
    · cases hp
theorem frz_ext {M : Mm} (B : Nat) (w : World) : Ext (fr B) M (frz M B w) := by
  refine ⟨frz_sub M B w, fun p v hp => ?_⟩
  unfold frz at hp
  split at hp
  · rename_i u hu; rw [← hp]; exact .inl hu
  · split at hp
    · exact .inr (by assumption)
    · cases hp
theorem frz_new {M : Mm} {B : Nat} {w : World} {p : Addr} {v : Value} (hn : M p = none) (hB : B ≤ p.block) (hc : w.cell? p = some v) (h1 : v.oneCell' = true) : frz M B w p = some v := by
  simp [frz, hn, hB, hc, h1]
mutual
def Rz (hp : List Blk) : AV → T → Prop
  | .c t, t' => t' = t ∨ (t = .lit (.slice none 0 0) ∧ ∃ sz, 0 < sz ∧ t' = .row 0 sz [])
  | .own i v, t' => ∃ e sz n ts, hp[i]? = some (.row v e sz n ts) ∧ t' = .row n sz ts
  | .agg cs, t' => ∃ ts, t' = .agg ts ∧ Rzs hp cs ts
  | .tup cs, t' => ∃ ts, t' = .tup ts ∧ Rzs hp cs ts
  | .fn f cap, t' => ∃ ts, t' = .fn f ts ∧ Rzs hp cap ts
  | .ptr i b off, t' => ∃ ty ts, hp[i]? = some (.box b ty (ts.map .c)) ∧ t' = .pin ts off
  | .eptr _ _ _, _ => False
  | .junk, _ => False
def Rzs (hp : List Blk) : List AV → List T → Prop
  | [], ts => ts = []
  | a :: asq, ts => ∃ t r, ts = t :: r ∧ Rz hp a t ∧ Rzs hp asq r
end
section
variable {hp : List Blk}
theorem rz_c {t : T} : Rz hp (.c t) t := by simp only [Rz]; exact .inl trivial
theorem rz_nil {sz : Nat} (h : Nat.ble 1 sz = true) : Rz hp (.c (.lit (.slice none 0 0))) (.row 0 sz []) := by simp only [Rz]; exact .inr ⟨trivial, sz, Nat.le_of_ble_eq_true h, rfl⟩
theorem rt_nil {M : Mm} {u : Value} {sz : Nat} (h0 : 0 < sz) (h : RT M (.lit (.slice none 0 0)) u) : RT M (.row 0 sz []) u := by
  simp only [RT] at h ⊢
  subst h
  exact ⟨none, 0, [], rfl, Nat.le_refl _, Nat.zero_le _, h0, by simp, fun h => absurd h (by omega), by simp only [RTs]⟩
theorem rz_own {i : Nat} {v : Value} {e : TypeId} {sz n : Nat} {ts : List T} (h : hp[i]? = some (.row v e sz n ts)) : Rz hp (.own i v) (.row n sz ts) := by simp only [Rz]; exact ⟨e, sz, n, ts, h, rfl⟩
theorem rz_agg {cs : List AV} {ts : List T} (h : Rzs hp cs ts) : Rz hp (.agg cs) (.agg ts) := by simp only [Rz]; exact ⟨ts, rfl, h⟩
theorem rz_tup {cs : List AV} {ts : List T} (h : Rzs hp cs ts) : Rz hp (.tup cs) (.tup ts) := by simp only [Rz]; exact ⟨ts, rfl, h⟩
theorem rz_fn {f : Fn} {cs : List AV} {ts : List T} (h : Rzs hp cs ts) : Rz hp (.fn f cs) (.fn f ts) := by simp only [Rz]; exact ⟨ts, rfl, h⟩
theorem rz_ptr {i b off : Nat} {ty : TypeId} {ts : List T} (h : hp[i]? = some (.box b ty (ts.map .c))) : Rz hp (.ptr i b off) (.pin ts off) := by simp only [Rz]; exact ⟨ty, ts, h, rfl⟩
theorem rzs_nil : Rzs hp [] [] := by simp only [Rzs]
theorem rzs_cons {a : AV} {asq : List AV} {t : T} {ts : List T} (h : Rz hp a t) (h' : Rzs hp asq ts) : Rzs hp (a :: asq) (t :: ts) := by simp only [Rzs]; exact ⟨t, ts, rfl, h, h'⟩
end
theorem heap_row {M : Mm} {hp : List Blk} {w : World} (h : HeapOk F M hp w) {B : Nat} (hB : ∀ (i : Nat) x b, hp[i]? = some x → x.blk = some b → B ≤ b) {i : Nat} {v : Value} {e : TypeId} {sz n : Nat} {ts : List T} (hi : hp[i]? = some (.row v e sz n ts)) :
    RT (frz M B w) (.row n sz ts) v := by
  obtain ⟨xs, ho, hx, h1, hsz⟩ := h.at_ i _ hi
  have hs := ownO_shape ho
  obtain ⟨A, c, rfl, hnc, hcm⟩ := hs
  simp only [RT]
  refine ⟨A, c, xs, rfl, hnc, Nat.le_trans hnc hcm, hsz, ho.1, fun hn => ?_, RTs.mono (frz_sub _ _ _) _ _ hx⟩
  obtain ⟨ad, rfl⟩ := ho.some_ hn
  exact ⟨ad, rfl, fun j x hj => frz_new ((h.out i _ ad.block hi rfl).2 _ (by rw [add_block])) (by rw [add_block]; exact hB i _ ad.block hi rfl) (ho.cells j x hj) (h1 x (List.mem_of_getElem? hj))⟩
mutual
theorem rz_sound {M : Mm} {hp : List Blk} {w : World} (h : HeapOk F M hp w) {B : Nat} (hB : ∀ (i : Nat) x b, hp[i]? = some x → x.blk = some b → B ≤ b) : ∀ (av : AV) (t : T) (u : Value), Rz hp av t → RA M av u → RT (frz M B w) t u
  | .c t, t', u, hz, hr => by
    simp only [Rz] at hz
    simp only [RA] at hr
    rcases hz with rfl | ⟨rfl, sz, h0, rfl⟩
    · exact RT.mono (frz_sub _ _ _) _ _ hr
    · exact rt_nil h0 (RT.mono (frz_sub _ _ _) _ _ hr)
  | .own i v, t', u, hz, hr => by
    simp only [Rz] at hz
    obtain ⟨e, sz, n, ts, h1, rfl⟩ := hz
    simp only [RA] at hr
    rw [hr.1]
    exact heap_row h hB h1
  | .agg cs, t', u, hz, hr => by
    simp only [Rz] at hz
    obtain ⟨ts, rfl, h1⟩ := hz
    simp only [RA] at hr
    obtain ⟨xs, rfl, h2⟩ := hr
    simp only [RT]
    exact ⟨xs, rfl, rzs_sound h hB cs ts xs h1 h2⟩
  | .tup cs, t', u, hz, hr => by
    simp only [Rz] at hz
    obtain ⟨ts, rfl, h1⟩ := hz
    simp only [RA] at hr
    obtain ⟨xs, rfl, h2⟩ := hr
    simp only [RT]
    exact ⟨xs, rfl, rzs_sound h hB cs ts xs h1 h2⟩
  | .fn f cap, t', u, hz, hr => by
    simp only [Rz] at hz
    obtain ⟨ts, rfl, h1⟩ := hz
    simp only [RA] at hr
    obtain ⟨xs, rfl, h2⟩ := hr
    simp only [RT]
    exact ⟨xs, rfl, rzs_sound h hB cap ts xs h1 h2⟩
  | .ptr i b off, t', u, hz, hr => by
    simp only [Rz] at hz
    obtain ⟨ty, ts, h1, rfl⟩ := hz
    simp only [RA] at hr
    subst hr
    obtain ⟨xs, hh, hx, hone⟩ := h.at_ i _ h1
    simp only [RT]
    refine ⟨⟨b, 0, none⟩, xs, by unfold Addr.add; split <;> simp_all, fun j x hj => ?_, RTs.mono (frz_sub _ _ _) _ _ hx.toT⟩
    have hadd : (⟨b, 0, none⟩ : Addr).add j = ⟨b, j, none⟩ := by unfold Addr.add; split <;> simp_all
    rw [hadd]
    refine frz_new ((h.out i _ b h1 rfl).2 _ rfl) (hB i _ b h1 rfl) ?_ (hone x (List.mem_of_getElem? hj))
    rw [cell_of_row _ b j _ _ _ hh]
    simpa using hj
  | .eptr _ _ _, _, _, hz, _ => by simp only [Rz] at hz
  | .junk, _, _, hz, _ => by simp only [Rz] at hz
theorem rzs_sound {M : Mm} {hp : List Blk} {w : World} (h : HeapOk F M hp w) {B : Nat} (hB : ∀ (i : Nat) x b, hp[i]? = some x → x.blk = some b → B ≤ b) : ∀ (asq : List AV) (ts : List T) (us : List Value), Rzs hp asq ts → RAs M asq us → RTs (frz M B w) ts us
  | [], ts, us, hz, hr => by
    simp only [Rzs] at hz
    simp only [RAs] at hr
    subst hz; subst hr
    simp only [RTs]
  | a :: asq, ts, us, hz, hr => by
    simp only [Rzs] at hz
    obtain ⟨t, r, rfl, h1, h2⟩ := hz
    simp only [RAs] at hr
    obtain ⟨x, xs, rfl, h3, h4⟩ := hr
    simp only [RTs]
    exact ⟨x, xs, rfl, rz_sound h hB a t x h1 h3, rzs_sound h hB asq r xs h2 h4⟩
end
end
attribute [irreducible] Rz Rzs
end Go.Proofs.Ytgjfiedepfjdcaa
namespace Go.Proofs.Ytgjfiedepfjdcaa
open Go.RowKit
section
variable {P : Program} {F : Frm} {L : Tab}
def Out1 (L : Tab) (σ : AS) : ResultVar → T → Prop
  | .tmp i, t => Rz σ.hp (σ.tmps i) t
  | .cell a ty, t => ∃ i b off tb cs ti, σ.tmps a = .ptr i b off ∧ σ.hp[i]? = some (.box b tb cs) ∧ L.look ty = some ti ∧
      (match ti.agg with | true => off + ti.size ≤ cs.length ∧ Rz σ.hp (.agg ((cs.drop off).take ti.size)) t | false => ∃ v, cs[off]? = some v ∧ Rz σ.hp v t)
def Outs (L : Tab) (σ : AS) : List ResultVar → List T → Prop
  | [], ts => ts = []
  | r :: rs, ts => ∃ t ts', ts = t :: ts' ∧ Out1 L σ r t ∧ Outs L σ rs ts'
def outT : List T → T
  | [t] => t
  | ts => .tup ts
/-- a function's end -/
structure Fin (L : Tab) (res : List ResultVar) (R : T → Prop) (e : Exit) (σ : AS) : Prop where
  out : (e = .normal ∨ e = .ret) ∧ ∃ ts, Outs L σ res ts ∧ R (outT ts)
theorem box_add (b off j : Nat) : (⟨b, off, none⟩ : Addr).add j = ⟨b, off + j, none⟩ := by unfold Addr.add; split <;> simp_all
/-- loading out of a variable -/
theorem load_box {M : Mm} {hp : List Blk} {w : World} (hL : TabOk P L) (h : HeapOk F M hp w) {i b off : Nat} {tb ty : TypeId} {cs : List AV} {ti : TI} (hi : hp[i]? = some (.box b tb cs)) (ht : L.look ty = some ti) (ha : ti.agg = true) (hl : off + ti.size ≤ cs.length) :
    ∃ u, (loadVar ty ⟨b, off, none⟩).run P w = .ok u w ∧ RA M (.agg ((cs.drop off).take ti.size)) u := by
  obtain ⟨xs, hh, hx, _⟩ := h.at_ i _ hi
  have hlen := hx.len
  refine ⟨.agg ((xs.drop off).take ti.size).toArray, ?_, by simp only [RA]; exact ⟨_, rfl, (hx.drop off).take ti.size⟩⟩
  have hlc : (loadCells ⟨b, off, none⟩ ti.size).run P w = .ok ((xs.drop off).take ti.size).toArray w := by
    have := run_loadCells_list (P := P) w ⟨b, off, none⟩ ((xs.drop off).take ti.size) (fun j v hj => by
      rw [box_add, cell_of_row _ b (off + j) _ _ _ hh]
      rw [List.getElem?_take] at hj
      split at hj
      · rw [List.getElem?_drop] at hj; simpa using hj
      · cases hj)
    rwa [show ((xs.drop off).take ti.size).length = ti.size by simp; omega] at this
  simp only [loadVar, Sem.run_bind, hL.isAgg ht, ha, Result.andThen_ok, if_true, hL.sizeOf ht, hlc, Sem.run_pure]
theorem load_box1 {M : Mm} {hp : List Blk} {w : World} (hL : TabOk P L) (h : HeapOk F M hp w) {i b off : Nat} {tb ty : TypeId} {cs : List AV} {ti : TI} {v : AV} (hi : hp[i]? = some (.box b tb cs)) (ht : L.look ty = some ti) (ha : ti.agg = false) (hv : cs[off]? = some v) :
    ∃ u, (loadVar ty ⟨b, off, none⟩).run P w = .ok u w ∧ RA M v u := by
  obtain ⟨xs, hh, hx, _⟩ := h.at_ i _ hi
  obtain ⟨x, hxo, hr⟩ := hx.get hv
  refine ⟨x, ?_, hr⟩
  have hcell : w.cell? ⟨b, off, none⟩ = some x := by rw [cell_of_row _ b off _ _ _ hh]; simpa using hxo
  simp only [loadVar, Sem.run_bind, hL.isAgg ht, ha, Result.andThen_ok, Bool.false_eq_true, if_false, run_load, hcell]
theorem out1_sound {M : Mm} {σ : AS} {a : Act} {w : World} (hL : TabOk P L) (hr : Rep F M σ a w) {B : Nat} (hB : ∀ (i : Nat) x b, σ.hp[i]? = some x → x.blk = some b → B ≤ b) {r : ResultVar} {t : T} (ho : Out1 L σ r t) :
    ∃ u, ((match r with | .tmp t => pure (a.tmps.getD t undef) | .cell a' t => do loadVar t (← asAddr (a.tmps.getD a' undef))) : Sem Value).run P w = .ok u w ∧ RT (frz M B w) t u := by
  cases r with
  | tmp i => exact ⟨_, rfl, rz_sound hr.heap hB _ _ _ ho (hr.tmps i)⟩
  | cell x ty =>
    obtain ⟨i, b, off, tb, cs, ti, h1, h2, h3, h4⟩ := ho
    have hv := hr.tmps x
    rw [h1] at hv
    simp only [RA] at hv
    simp only [hv, asAddr, Sem.run_bind, Sem.run_pure, Result.andThen_ok]
    cases hag : ti.agg with
    | true =>
      rw [hag] at h4
      obtain ⟨u, hu, hra⟩ := load_box hL hr.heap h2 h3 hag h4.1
      exact ⟨u, hu, rz_sound hr.heap hB _ _ _ h4.2 hra⟩
    | false =>
      rw [hag] at h4
      obtain ⟨v, hv, hz⟩ := h4
      obtain ⟨u, hu, hra⟩ := load_box1 hL hr.heap h2 h3 hag hv
      exact ⟨u, hu, rz_sound hr.heap hB _ _ _ hz hra⟩
theorem outs_sound {M : Mm} {σ : AS} {a : Act} {w : World} (hL : TabOk P L) (hr : Rep F M σ a w) {B : Nat} (hB : ∀ (i : Nat) x b, σ.hp[i]? = some x → x.blk = some b → B ≤ b) : ∀ {rs : List ResultVar} {ts : List T}, Outs L σ rs ts →
    ∃ us, (rs.mapM fun r => ((match r with | .tmp t => pure (a.tmps.getD t undef) | .cell a' t => do loadVar t (← asAddr (a.tmps.getD a' undef))) : Sem Value)).run P w = .ok us w ∧ RTs (frz M B w) ts us
  | [], ts, ho => by
    simp only [Outs] at ho
    subst ho
    exact ⟨[], rfl, by simp only [RTs]⟩
  | r :: rs, ts, ho => by
    simp only [Outs] at ho
    obtain ⟨t, ts', rfl, h1, h2⟩ := ho
    obtain ⟨u, hu, hu'⟩ := out1_sound hL hr hB h1
    obtain ⟨us, hus, hus'⟩ := outs_sound hL hr hB h2
    refine ⟨u :: us, ?_, by simp only [RTs]; exact ⟨u, us, rfl, hu', hus'⟩⟩
    simp only [List.mapM_cons, Sem.run_bind, hu, Result.andThen_ok, hus, Sem.run_pure]
theorem results_sound {M : Mm} {σ : AS} {a : Act} {w : World} (hL : TabOk P L) (hr : Rep F M σ a w) {B : Nat} (hB : ∀ (i : Nat) x b, σ.hp[i]? = some x → x.blk = some b → B ≤ b) {fn : Func} {ts : List T} (ho : Outs L σ fn.results.toList ts) :
    ∃ u, (results fn a.tmps).run P w = .ok u w ∧ RT (frz M B w) (outT ts) u := by
  obtain ⟨us, hus, hr⟩ := outs_sound hL hr hB ho
  have hlen := hr.len
  have hm : (fn.results.mapM fun r => ((match r with | .tmp t => pure (a.tmps.getD t undef) | .cell a' t => do loadVar t (← asAddr (a.tmps.getD a' undef))) : Sem Value)).run P w = .ok us.toArray w := by
    rw [Array.mapM_eq_mapM_toList]
    rw [Sem.run_map, hus]
    rfl
  refine ⟨if h : us.toArray.size = 1 then us.toArray[0] else .tuple us.toArray, ?_, ?_⟩
  · unfold results
    simp only [Sem.run_bind, Sem.run_pure]
    erw [hm]
    rfl
  · match ts, us, hlen, hr with
    | [], [], _, hr => simp only [outT, RT]; exact ⟨[], by simp, hr⟩
    | [t], [u], _, hr =>
      simp only [RTs] at hr
      obtain ⟨x, r, e, h1, _⟩ := hr
      injection e with e _
      subst e
      simpa [outT] using h1
    | t1 :: t2 :: ts, u1 :: u2 :: us, _, hr => simp only [outT, RT]; exact ⟨u1 :: u2 :: us, by simp, hr⟩
/-- a function walked -/
theorem af_of {f : FuncId} {fn : Func} {c : Code} {args : List T} {R : T → Prop} (hL : TabOk P L) (hf : P.funcs[f]? = some fn) (hb : fn.body = some c) (hn : (fn.name == "runtime.NumGoroutine") = false) (hN : args.length ≤ fn.ntmps)
    (h : ∀ F, (∀ b, ¬ F.X b) → AC P F c (Fin L fn.results.toList R) (AS.init fn.ntmps (args.map .c))) : AF P f args R := by
  refine ⟨⟨fn, hf, hn, by rw [hb]; rfl⟩, fun M w vs hG hM hvs => ?_⟩
  have hlen := hvs.len
  refine calls_of_wp hf hb (wp_mono ((h ⟨w, fun _ => False, M, hG, fun _ _ h => h⟩ (fun _ h => h)).out M _ w ⟨?_, ?_, rfl, ?_⟩) ?_)
  · intro i
    have hav := RAs.ofT hvs
    simp only [AS.init]
    by_cases hi : i < args.length
    · have : Nat.blt i fn.ntmps = true := Nat.ble_eq_true_of_le (by omega)
      rw [this, cond_true]
      have h1 : (args.map AV.c)[i]? = some (.c args[i]) := by simp [hi]
      obtain ⟨x, hx, hra⟩ := hav.get h1
      rw [List.getD_eq_getElem?_getD, h1]
      have h2 : i < vs.length := by omega
      have h3 : vs[i] = x := by rw [List.getElem?_eq_getElem h2] at hx; injection hx
      simp [Array.getD_eq_getD_getElem?, Array.getElem?_append, h2, h3]
      exact hra
    · have h1 : (args.map AV.c).getD i (.c (.lit undef)) = .c (.lit undef) := by
        rw [List.getD_eq_getElem?_getD, List.getElem?_eq_none (by simp; omega)]; rfl
      rw [h1]
      have h2 : ¬ i < vs.length := by omega
      have h3 : (vs.toArray ++ Array.replicate (fn.ntmps - vs.toArray.size) undef).getD i undef = undef := by
        simp [Array.getD_eq_getD_getElem?, Array.getElem?_append, h2, Array.getElem?_replicate]
        split <;> rfl
      rw [h3]
      cases Nat.blt i fn.ntmps <;> simp only [cond_true, cond_false, RA, RT]
  · simp [AS.init]; omega
  · exact ⟨hM, Ext.refl _ _, ⟨rfl, rfl, rfl, Nat.le_refl _, fun _ _ _ => rfl⟩, fun i x hx => by simp [AS.init] at hx, fun i j x y b hx => by simp [AS.init] at hx, fun i x b hx => by simp [AS.init] at hx⟩
  · rintro e a' w' ⟨M', σ', ⟨⟨he, ts, ho, hR⟩⟩, hr⟩
    have hB : ∀ (i : Nat) x b, σ'.hp[i]? = some x → x.blk = some b → w.heap.size ≤ b := by
      intro i x b hx hxb
      rcases (hr.heap.out i x b hx hxb).1 with h1 | h1
      · exact h1.elim
      · exact h1
    obtain ⟨u, hu, hRT⟩ := results_sound hL hr hB ho
    have hfin : a'.defers = [] ∧ ∃ v, (results fn a'.tmps).run P w' = .ok v w' ∧ ∃ v' r M', Ending.returned v = .returned v' ∧ R r ∧ Ext (fr w.heap.size) M M' ∧ MemOk M' w' ∧ RT M' r v' ∧ Below w.heap.size w w' :=
      ⟨hr.defers, u, hu, u, outT ts, frz M' w.heap.size w', rfl, hR, (hr.heap.ext.to (fun _ h => h.elim (fun h => h.elim) id)).trans (frz_ext _ _), frz_ok hr.heap.mem _, hRT, ⟨hr.heap.frm.os, hr.heap.frm.tape, hr.heap.frm.output, hr.heap.frm.size, fun k hk => hr.heap.frm.block k hk (fun h => h)⟩⟩
    rcases he with rfl | rfl <;> exact hfin
end
end Go.Proofs.Ytgjfiedepfjdcaa
namespace Go.Proofs.Ytgjfiedepfjdcaa
open Go.RowKit
def oneA : AV → Bool
  | .c (.lit v) => v.oneCell'
  | .c (.row _ _ _) => true
  | .c (.fn _ _) => true
  | .c (.pin _ _) => true
  | .fn _ _ => true
  | .ptr _ _ _ => true
  | .own _ _ => true
  | .eptr _ _ _ => true
  | _ => false
def allOne : List AV → Bool
  | [] => true
  | a :: l => cond (oneA a) (allOne l) false
def cellsA : AV → List AV
  | .agg cs => cs
  | .c (.agg ts) => ts.map .c
  | v => [v]
theorem one_of {M : Mm} {v : AV} {u : Value} (h : RA M v u) (ho : oneA v = true) : u.oneCell' = true := by
  cases v with
  | c t =>
    simp only [RA] at h
    cases t with
    | lit v => simp only [RT] at h; rw [h]; exact ho
    | row n sz cs => simp only [RT] at h; obtain ⟨A, c, xs, rfl, _⟩ := h; rfl
    | fn f cap => simp only [RT] at h; obtain ⟨xs, rfl, _⟩ := h; rfl
    | pin cs off => simp only [RT] at h; obtain ⟨ad, xs, rfl, _⟩ := h; rfl
    | agg cs => simp [oneA] at ho
    | tup cs => simp [oneA] at ho
  | fn f cap => simp only [RA] at h; obtain ⟨xs, rfl, _⟩ := h; rfl
  | ptr i b off => simp only [RA] at h; rw [h]; rfl
  | own i v => simp only [RA] at h; rw [h.1]; exact h.2
  | eptr i v k => simp only [RA] at h; obtain ⟨ad, n, c, _, rfl⟩ := h; rfl
  | agg cs => simp [oneA] at ho
  | tup cs => simp [oneA] at ho
  | junk => simp [oneA] at ho
theorem ones_of {M : Mm} : ∀ {vs : List AV} {us : List Value}, RAs M vs us → allOne vs = true → OneAll us
  | [], _, h, _ => by simp only [RAs] at h; subst h; intro x hx; simp at hx
  | v :: vs, _, h, ho => by
    simp only [RAs] at h
    obtain ⟨x, r, rfl, h1, h2⟩ := h
    simp only [allOne] at ho
    cases hc : oneA v with
    | false => rw [hc] at ho; cases ho
    | true =>
      rw [hc] at ho
      intro y hy
      rcases List.mem_cons.1 hy with rfl | hy
      · exact one_of h1 hc
      · exact ones_of h2 ho y hy
theorem cells_one {v : Value} (h : v.oneCell' = true) : v.cells = #[v] := by cases v <;> simp [Value.oneCell'] at h <;> rfl
theorem cells_of {M : Mm} {v : AV} {u : Value} (h : RA M v u) (ho : allOne (cellsA v) = true) : RAs M (cellsA v) u.cells.toList ∧ OneAll u.cells.toList := by
  have key : RAs M (cellsA v) u.cells.toList → RAs M (cellsA v) u.cells.toList ∧ OneAll u.cells.toList := fun h => ⟨h, ones_of h ho⟩
  have one : cellsA v = [v] → RAs M (cellsA v) u.cells.toList := by
    intro e
    rw [e] at ho ⊢
    have h1 : oneA v = true := by
      simp only [allOne] at ho
      cases hc : oneA v with
      | false => rw [hc] at ho; cases ho
      | true => rfl
    rw [cells_one (one_of h h1)]
    simp only [RAs]
    exact ⟨u, [], rfl, h, rfl⟩
  refine key ?_
  cases v with
  | c t =>
    cases t with
    | agg ts =>
      simp only [RA, RT] at h
      obtain ⟨xs, rfl, h⟩ := h
      simpa [cellsA, Value.cells] using RAs.ofT h
    | _ => exact one rfl
  | agg cs =>
    simp only [RA] at h
    obtain ⟨xs, rfl, h⟩ := h
    simpa [cellsA, Value.cells] using h
  | _ => exact one rfl
def spl {α : Type} : List α → Nat → List α → List α
  | l, _, [] => l
  | l, k, v :: vs => spl (l.set k v) (k + 1) vs
theorem spl_eq {α : Type} : ∀ (vs l : List α) (k : Nat), k + vs.length ≤ l.length → spl l k vs = l.take k ++ vs ++ l.drop (k + vs.length)
  | [], l, k, _ => by simp [spl]
  | v :: vs, l, k, h => by
    have hk : k < l.length := by simp at h; omega
    rw [spl, spl_eq vs (l.set k v) (k + 1) (by simp at h ⊢; omega)]
    rw [List.take_set, List.drop_set, if_pos (by omega), List.take_succ_eq_append_getElem hk, List.set_append_right _ _ (by simp; omega)]
    simp [Nat.min_eq_left (Nat.le_of_lt hk), Nat.add_assoc, Nat.add_comm 1]
theorem RAs.spl {M : Mm} : ∀ {vs cs : List AV} {us xs : List Value} {k : Nat}, RAs M cs xs → RAs M vs us → RAs M (spl cs k vs) (Go.Proofs.Ytgjfiedepfjdcaa.spl xs k us)
  | [], _, _, _, _, h, h' => by simp only [RAs] at h'; subst h'; exact h
  | v :: vs, cs, _, xs, k, h, h' => by
    simp only [RAs] at h'
    obtain ⟨x, r, rfl, h1, h2⟩ := h'
    exact RAs.spl (vs := vs) (cs := cs.set k v) (us := r) (xs := xs.set k x) (k := k + 1) (RAs.set k h h1) h2
theorem spl_one {xs us : List Value} {k : Nat} (h : OneAll xs) (h' : OneAll us) : OneAll (spl xs k us) := by
  induction us generalizing xs k with
  | nil => exact h
  | cons u us ih =>
    refine ih (fun x hx => ?_) (fun x hx => h' x (List.mem_cons_of_mem _ hx))
    rcases List.mem_or_eq_of_mem_set hx with hx | rfl
    · exact h x hx
    · exact h' x (by simp)
theorem spl_len {α : Type} : ∀ (vs l : List α) (k : Nat), (spl l k vs).length = l.length
  | [], l, k => rfl
  | v :: vs, l, k => by rw [spl, spl_len vs]; simp
section
variable {P : Program} {F : Frm} {L : Tab} {d : Option Tmp} {ty : TypeId} {pos : String} {aft : Array Edge} {g : Option (Nat × Bool)} {ρ : Operand → AV} {hp : List Blk} {K : AV → List Blk → Prop}
theorem lo_move {x : Operand} {v : AV} (hv : ρ x = v) (h : K v hp) : LO P F ⟨d, .move x, ty, pos, aft, g⟩ ρ hp K := by
  refine LO.same (v := v) (fun M e w hx _ => ⟨e x, rfl, ?_⟩) h
  rw [← hv]; exact hx x (by first | (simp [Op.operands]; done) | simp [Op.operands, Call.operands])
theorem lo_assign {x : Operand} {v : AV} (hv : ρ x = v) (h : K v hp) : LO P F ⟨d, .assign x, ty, pos, aft, g⟩ ρ hp K := by
  refine LO.same (v := v) (fun M e w hx _ => ⟨e x, rfl, ?_⟩) h
  rw [← hv]; exact hx x (by first | (simp [Op.operands]; done) | simp [Op.operands, Call.operands])
theorem lo_pick_t {c x y : Operand} {v : AV} (hc : ρ c = .c (.lit (.bool true))) (hv : ρ x = v) (h : K v hp) : LO P F ⟨d, .pick c x y, ty, pos, aft, g⟩ ρ hp K := by
  refine LO.same (v := v) (fun M e w hx _ => ⟨e x, ?_, ?_⟩) h
  · have := hx c (by first | (simp [Op.operands]; done) | simp [Op.operands, Call.operands])
    rw [hc] at this
    simp only [RA, RT] at this
    simp [execOp, this, asBool]
  · rw [← hv]; exact hx x (by first | (simp [Op.operands]; done) | simp [Op.operands, Call.operands])
theorem lo_pick_f {c x y : Operand} {v : AV} (hc : ρ c = .c (.lit (.bool false))) (hv : ρ y = v) (h : K v hp) : LO P F ⟨d, .pick c x y, ty, pos, aft, g⟩ ρ hp K := by
  refine LO.same (v := v) (fun M e w hx _ => ⟨e y, ?_, ?_⟩) h
  · have := hx c (by first | (simp [Op.operands]; done) | simp [Op.operands, Call.operands])
    rw [hc] at this
    simp only [RA, RT] at this
    simp [execOp, this, asBool]
  · rw [← hv]; exact hx y (by first | (simp [Op.operands]; done) | simp [Op.operands, Call.operands])
theorem lo_extract {x : Operand} {ts : List T} {k : Nat} {t : T} (hx : ρ x = .c (.tup ts)) (hk : ts[k]? = some t) (h : K (.c t) hp) : LO P F ⟨d, .extract x k, ty, pos, aft, g⟩ ρ hp K := by
  refine ⟨fun M e w he hh => ?_⟩
  have h1 := he x (by first | (simp [Op.operands]; done) | simp [Op.operands, Call.operands])
  rw [hx] at h1
  simp only [RA, RT] at h1
  obtain ⟨xs, hu, hxs⟩ := h1
  obtain ⟨u, hu1, hu2⟩ := hxs.get hk
  have : (execOp e ⟨d, .extract x k, ty, pos, aft, g⟩).run P w = .ok (.value u) w := by
    simp [execOp, hu, Instr.extract, hu1]
  rw [this]
  exact ⟨M, _, hp, h, Ext.refl _ _, hh, by simp only [RA]; exact hu2⟩
theorem lo_extractA {x : Operand} {ts : List AV} {k : Nat} {t : AV} (hx : ρ x = .tup ts) (hk : ts[k]? = some t) (h : K t hp) : LO P F ⟨d, .extract x k, ty, pos, aft, g⟩ ρ hp K := by
  refine ⟨fun M e w he hh => ?_⟩
  have h1 := he x (by first | (simp [Op.operands]; done) | simp [Op.operands, Call.operands])
  rw [hx] at h1
  simp only [RA] at h1
  obtain ⟨xs, hu, hxs⟩ := h1
  obtain ⟨u, hu1, hu2⟩ := hxs.get hk
  have : (execOp e ⟨d, .extract x k, ty, pos, aft, g⟩).run P w = .ok (.value u) w := by
    simp [execOp, hu, Instr.extract, hu1]
  rw [this]
  exact ⟨M, _, hp, h, Ext.refl _ _, hh, hu2⟩
/-- a new block -/
theorem push_box {M : Mm} {w : World} (hh : HeapOk F M hp w) {t : TypeId} {cs : List AV} {xs : List Value} (hx : RAs M cs xs) (h1 : OneAll xs) : HeapOk F M (hp ++ [.box w.heap.size t cs]) (w.alloc (.cells xs.toArray t)) := by
  refine hh.step hp.length rfl rfl rfl (by simp) (fun b hb _ => Below.heap_alloc _ _ _ hb) (Ext.refl _ _) (fun p v h1 h2 => by rw [h2] at h1; cases h1) (fun j hj => ?_) (fun x' hx' => ?_)
  · rcases Nat.lt_or_ge j hp.length with h | h
    · rw [List.getElem?_append_left h]
    · rw [List.getElem?_eq_none (by simp; omega), List.getElem?_eq_none (by omega)]
  · have : x' = .box w.heap.size t cs := by simpa using hx'.symm
    subst this
    refine ⟨⟨xs, heap_alloc_new w _, hx, h1⟩, fun b hb => .inr ?_⟩
    obtain rfl : w.heap.size = b := by simpa [Blk.blk] using hb
    refine ⟨Nat.le_refl _, fun p hp => ?_⟩
    cases hc : M p with
    | none => rfl
    | some v => have := World.block_lt_of_cell? w p (hh.mem p v hc).1; omega
theorem lo_alloc (hL : TabOk P L) {t : TypeId} {ti : TI} (ht : L.look t = some ti) (h : ∀ b, K (.ptr hp.length b 0) (hp ++ [.box b t (ti.zero.map fun v => .c (.lit v))])) : LO P F ⟨d, .alloc t, ty, pos, aft, g⟩ ρ hp K := by
  refine ⟨fun M e w he hh => ?_⟩
  obtain ⟨z, hz, hzc, _, hone⟩ := hL.zero ht
  have : (execOp e ⟨d, .alloc t, ty, pos, aft, g⟩).run P w = .ok (.value (.pointer (some ⟨w.heap.size, 0, none⟩))) (w.alloc (.cells z.cells t)) := by
    simp [execOp, Instr.alloc, hz, newVar, newRow]
  rw [this]
  refine ⟨M, _, _, h w.heap.size, Ext.refl _ _, ?_, (by simp only [RA])⟩
  have hz' : z.cells = ti.zero.toArray := by rw [← hzc]
  rw [hz']
  refine push_box hh ?_ hone
  generalize ti.zero = l
  induction l with
  | nil => simp [RAs]
  | cons v l ih => simp only [List.map_cons, RAs, RA, RT]; exact ⟨v, l, rfl, rfl, ih⟩
theorem lo_box {t : TypeId} {x : Operand} {v : AV} (hv : ρ x = v) (h1 : allOne (cellsA v) = true) (h : ∀ b, K (.ptr hp.length b 0) (hp ++ [.box b t (cellsA v)])) : LO P F ⟨d, .box t x, ty, pos, aft, g⟩ ρ hp K := by
  refine ⟨fun M e w he hh => ?_⟩
  have hx := he x (by first | (simp [Op.operands]; done) | simp [Op.operands, Call.operands])
  rw [hv] at hx
  obtain ⟨hc, ho⟩ := cells_of hx h1
  have : (execOp e ⟨d, .box t x, ty, pos, aft, g⟩).run P w = .ok (.value (.pointer (some ⟨w.heap.size, 0, none⟩))) (w.alloc (.cells (e x).cells t)) := by
    simp [execOp, Instr.box, newVar, newRow]
  rw [this]
  refine ⟨M, _, _, h w.heap.size, Ext.refl _ _, ?_, by simp only [RA]⟩
  have := push_box (t := t) hh hc ho
  simpa using this
theorem lo_load_box (hL : TabOk P L) {t : TypeId} {ti : TI} {x : Operand} {i b off : Nat} {tb : TypeId} {cs : List AV} (hx : ρ x = .ptr i b off) (hi : hp[i]? = some (.box b tb cs)) (ht : L.look t = some ti) (ha : ti.agg = true) (hl : Nat.ble (off + ti.size) cs.length = true) (h : K (.agg ((cs.drop off).take ti.size)) hp) : LO P F ⟨d, .load t x, ty, pos, aft, g⟩ ρ hp K := by
  refine LO.same (fun M e w he hh => ?_) h
  have h1 := he x (by first | (simp [Op.operands]; done) | simp [Op.operands, Call.operands])
  rw [hx] at h1
  simp only [RA] at h1
  obtain ⟨u, hu, hr⟩ := load_box hL hh hi ht ha (Nat.le_of_ble_eq_true hl)
  exact ⟨u, by simp [execOp, Instr.loadAt, h1, Instr.sureAddr, hu], hr⟩
theorem lo_load_box1 (hL : TabOk P L) {t : TypeId} {ti : TI} {x : Operand} {i b off : Nat} {tb : TypeId} {cs : List AV} {v : AV} (hx : ρ x = .ptr i b off) (hi : hp[i]? = some (.box b tb cs)) (ht : L.look t = some ti) (ha : ti.agg = false) (hv : cs[off]? = some v) (h : K v hp) : LO P F ⟨d, .load t x, ty, pos, aft, g⟩ ρ hp K := by
  refine LO.same (fun M e w he hh => ?_) h
  have h1 := he x (by first | (simp [Op.operands]; done) | simp [Op.operands, Call.operands])
  rw [hx] at h1
  simp only [RA] at h1
  obtain ⟨u, hu, hr⟩ := load_box1 hL hh hi ht ha hv
  exact ⟨u, by simp [execOp, Instr.loadAt, h1, Instr.sureAddr, hu], hr⟩
theorem lo_load_pin1 (hL : TabOk P L) {t : TypeId} {ti : TI} {x : Operand} {off : Nat} {cs : List T} {v : T} (hx : ρ x = .c (.pin cs off)) (ht : L.look t = some ti) (ha : ti.agg = false) (hv : cs[off]? = some v) (h : K (.c v) hp) : LO P F ⟨d, .load t x, ty, pos, aft, g⟩ ρ hp K := by
  refine LO.same (fun M e w he hh => ?_) h
  have h1 := he x (by first | (simp [Op.operands]; done) | simp [Op.operands, Call.operands])
  rw [hx] at h1
  simp only [RA, RT] at h1
  obtain ⟨ad, xs, hu, hat, hxs⟩ := h1
  obtain ⟨u, hu1, hu2⟩ := hxs.get hv
  have hcell := (hh.mem _ _ (hat off u hu1)).1
  refine ⟨u, ?_, by simp only [RA]; exact hu2⟩
  simp [execOp, Instr.loadAt, hu, Instr.sureAddr, loadVar, hL.isAgg ht, ha, hcell]
theorem lo_load_pin (hL : TabOk P L) {t : TypeId} {ti : TI} {x : Operand} {off : Nat} {cs ts : List T} (hx : ρ x = .c (.pin cs off)) (ht : L.look t = some ti) (ha : ti.agg = true) (hts : (cs.drop off).take ti.size = ts) (hl : ts.length = ti.size) (h : K (.c (.agg ts)) hp) : LO P F ⟨d, .load t x, ty, pos, aft, g⟩ ρ hp K := by
  refine LO.same (fun M e w he hh => ?_) h
  have h1 := he x (by first | (simp [Op.operands]; done) | simp [Op.operands, Call.operands])
  rw [hx] at h1
  simp only [RA, RT] at h1
  obtain ⟨ad, xs, hu, hat, hxs⟩ := h1
  have hys : RTs M ts ((xs.drop off).take ti.size) := by rw [← hts]; exact (hxs.drop off).take ti.size
  have hlen : ((xs.drop off).take ti.size).length = ti.size := by rw [hys.len, hl]
  have hlc : (loadCells (ad.add off) ti.size).run P w = .ok ((xs.drop off).take ti.size).toArray w := by
    have := run_loadCells_list (P := P) w (ad.add off) ((xs.drop off).take ti.size) (fun j v hj => by
      rw [add_add']
      rw [List.getElem?_take] at hj
      split at hj
      · rw [List.getElem?_drop] at hj
        exact (hh.mem _ _ (hat _ v hj)).1
      · cases hj)
    rwa [hlen] at this
  refine ⟨.agg ((xs.drop off).take ti.size).toArray, ?_, by simp only [RA, RT]; exact ⟨_, rfl, hys⟩⟩
  simp [execOp, Instr.loadAt, hu, Instr.sureAddr, loadVar, hL.isAgg ht, ha, hL.sizeOf ht, hlc]
theorem lo_store (hL : TabOk P L) {t : TypeId} {ti : TI} {x y : Operand} {i b off : Nat} {tb : TypeId} {cs : List AV} {v : AV} (hx : ρ x = .ptr i b off) (hi : hp[i]? = some (.box b tb cs)) (hv : ρ y = v) (ht : L.look t = some ti) (h1 : allOne (cellsA v) = true) (hl : (cellsA v).length = ti.size) (hb : Nat.ble (off + ti.size) cs.length = true)
    (h : K (.c (.lit undef)) (hp.set i (.box b tb (spl cs off (cellsA v))))) : LO P F ⟨d, .store t x y, ty, pos, aft, g⟩ ρ hp K := by
  refine ⟨fun M e w he hh => ?_⟩
  have hax := he x (by first | (simp [Op.operands]; done) | simp [Op.operands, Call.operands])
  rw [hx] at hax
  simp only [RA] at hax
  have hvy := he y (by first | (simp [Op.operands]; done) | simp [Op.operands, Call.operands])
  rw [hv] at hvy
  obtain ⟨hc, ho⟩ := cells_of hvy h1
  obtain ⟨xs, hhp, hxs, hone⟩ := hh.at_ i _ hi
  have hlen := hxs.len
  have hcl := hc.len
  have hble := Nat.le_of_ble_eq_true hb
  have hcs : (e y).cells.size = ti.size := by rw [← hl, ← hcl]; simp
  have hst := run_storeCells_at (P := P) b off tb (e y).cells.toList 0 xs.toArray w hhp (by simp; omega) ho
  have hrun : (execOp e ⟨d, .store t x y, ty, pos, aft, g⟩).run P w = .ok .skip (w.setRow b (spl xs off (e y).cells.toList).toArray) := by
    rw [spl_eq _ _ _ (by simp; omega)]
    simp [execOp, Instr.storeAt, hax, Instr.sureAddr, storeVar, hL.sizeOf ht, hcs] at hst ⊢
    simp [hst]
  rw [hrun]
  refine ⟨M, _, _, h, Ext.refl _ _, ?_, by simp only [RA, RT]⟩
  have hblk := setRow_heap w b xs.toArray (spl xs off (e y).cells.toList).toArray tb _ hhp
  refine hh.step i rfl rfl rfl (by simp [World.setRow]) (fun k hk hne => ?_) (Ext.refl _ _) (fun p v h1 h2 => by rw [h2] at h1; cases h1) (fun j hj => by rw [List.getElem?_set_ne (Ne.symm hj)]) (fun x' hx' => ?_)
  · have : k ≠ b := fun e => hne _ hi (by rw [e]; rfl)
    simp [World.setRow, Array.getElem?_modify, Ne.symm this]
  · have hlt : i < hp.length := (List.getElem?_eq_some_iff.1 hi).1
    rw [List.getElem?_set_self hlt] at hx'
    obtain rfl : Blk.box b tb (spl cs off (cellsA v)) = x' := by injection hx'
    refine ⟨⟨_, hblk, RAs.spl hxs hc, spl_one hone ho⟩, fun b' hb' => .inl ⟨_, hi, hb'⟩⟩
end
end Go.Proofs.Ytgjfiedepfjdcaa
namespace Go.Proofs.Ytgjfiedepfjdcaa
open Go.RowKit
section
variable {P : Program} {F : Frm} {L : Tab} {d : Option Tmp} {ty : TypeId} {pos : String} {aft : Array Edge} {g : Option (Nat × Bool)} {ρ : Operand → AV} {hp : List Blk} {K : AV → List Blk → Prop}
theorem run_fieldAt (hL : TabOk P L) {s : TypeId} {ti : TI} {fs : List (Nat × Nat)} {k o sz : Nat} (ht : L.look s = some ti) (hd : ti.d = .struct fs) (hk : fs[k]? = some (o, sz)) (h0 : Nat.beq sz 0 = false) (ad : Addr) (w : World) :
    (Instr.fieldAt s (.pointer (some ad)) k).run P w = .ok (.pointer (some (ad.add o))) w := by
  obtain ⟨fields, f, h1, h2, h3, h4⟩ := hL.field ht hd hk
  cases hi : P.info? f.type with
  | none => rw [hi] at h4; simp at h4
  | some inf =>
    rw [hi] at h4
    have h5 : inf.size = sz := by simpa using h4
    have h6 : ¬ sz = 0 := fun e => by rw [e] at h0; cases h0
    simp [Instr.fieldAt, run_underlying h1, h2, Instr.sureAddr, fieldPlace, Go.sizeOf, typeInfo, hi, h5, h6, h3]
theorem lo_fld (hL : TabOk P L) {s : TypeId} {ti : TI} {fs : List (Nat × Nat)} {k o sz : Nat} {x : Operand} {i b off : Nat} (hx : ρ x = .ptr i b off) (ht : L.look s = some ti) (hd : ti.d = .struct fs) (hk : fs[k]? = some (o, sz)) (h0 : Nat.beq sz 0 = false) (h : K (.ptr i b (off + o)) hp) : LO P F ⟨d, .fieldAddr s x k, ty, pos, aft, g⟩ ρ hp K := by
  refine LO.same (fun M e w he hh => ?_) h
  have h1 := he x (by first | (simp [Op.operands]; done) | simp [Op.operands, Call.operands])
  rw [hx] at h1
  simp only [RA] at h1
  exact ⟨_, by simp [execOp, h1, run_fieldAt hL ht hd hk h0]; rfl, by simp only [RA, box_add]⟩
theorem lo_fld_pin (hL : TabOk P L) {s : TypeId} {ti : TI} {fs : List (Nat × Nat)} {k o sz : Nat} {x : Operand} {cs : List T} {off : Nat} (hx : ρ x = .c (.pin cs off)) (ht : L.look s = some ti) (hd : ti.d = .struct fs) (hk : fs[k]? = some (o, sz)) (h0 : Nat.beq sz 0 = false) (h : K (.c (.pin cs (off + o))) hp) : LO P F ⟨d, .fieldAddr s x k, ty, pos, aft, g⟩ ρ hp K := by
  refine LO.same (fun M e w he hh => ?_) h
  have h1 := he x (by first | (simp [Op.operands]; done) | simp [Op.operands, Call.operands])
  rw [hx] at h1
  simp only [RA, RT] at h1
  obtain ⟨ad, xs, hu, hat, hxs⟩ := h1
  refine ⟨_, by simp [execOp, hu, run_fieldAt hL ht hd hk h0]; rfl, ?_⟩
  simp only [RA, RT]
  exact ⟨ad, xs, by rw [add_add'], hat, hxs⟩
theorem lo_fld_e (hL : TabOk P L) {s : TypeId} {ti : TI} {fs : List (Nat × Nat)} {k o sz : Nat} {x : Operand} {i : Nat} {v : Value} {off : Nat} (hx : ρ x = .eptr i v off) (ht : L.look s = some ti) (hd : ti.d = .struct fs) (hk : fs[k]? = some (o, sz)) (h0 : Nat.beq sz 0 = false) (h : K (.eptr i v (off + o)) hp) : LO P F ⟨d, .fieldAddr s x k, ty, pos, aft, g⟩ ρ hp K := by
  refine LO.same (fun M e w he hh => ?_) h
  have h1 := he x (by first | (simp [Op.operands]; done) | simp [Op.operands, Call.operands])
  rw [hx] at h1
  simp only [RA] at h1
  obtain ⟨ad, n, c, hv, hu⟩ := h1
  refine ⟨_, by simp [execOp, hu, run_fieldAt hL ht hd hk h0]; rfl, ?_⟩
  simp only [RA]
  exact ⟨ad, n, c, hv, by rw [add_add']⟩
theorem lo_idx (hL : TabOk P L) {t el : TypeId} {ti te : TI} {x y : Operand} {n sz : Nat} {cs : List T} {k : IntKind} {z : Int} (j : Nat) (hx : ρ x = .c (.row n sz cs)) (hy : ρ y = .c (.lit (.int k z))) (hz : z = (j : Int)) (hj : j < n) (ht : L.look t = some ti) (hd : ti.d = .slice el) (hte : L.look el = some te) (hsz : te.size = sz) (h : K (.c (.pin cs (j * sz))) hp) : LO P F ⟨d, .indexAddr t x y, ty, pos, aft, g⟩ ρ hp K := by
  refine LO.same (fun M e w he hh => ?_) h
  have h1 := he x (by first | (simp [Op.operands]; done) | simp [Op.operands, Call.operands])
  rw [hx] at h1
  simp only [RA, RT] at h1
  obtain ⟨A, c, xs, hu, hn, _, _, _, hA, hxs⟩ := h1
  obtain ⟨ad, rfl, hat⟩ := hA (by omega)
  have h2 := he y (by first | (simp [Op.operands]; done) | simp [Op.operands, Call.operands])
  rw [hy] at h2
  simp only [RA, RT] at h2
  refine ⟨.pointer (some (ad.add (j * sz))), ?_, by simp only [RA, RT]; exact ⟨ad, xs, rfl, hat, hxs⟩⟩
  subst hz
  simp [execOp, Instr.indexAt, hu, h2, asIntOf, run_underlying (hL.slice ht hd), hL.sizeOf hte, hsz, hj]
theorem lo_idx_own (hL : TabOk P L) {t el : TypeId} {ti te : TI} {x y : Operand} {i n sz : Nat} {v : Value} {e' : TypeId} {cs : List T} {k : IntKind} {z : Int} (j : Nat) (hx : ρ x = .own i v) (hi : hp[i]? = some (.row v e' sz n cs)) (hy : ρ y = .c (.lit (.int k z))) (hz : z = (j : Int)) (hj : j < n) (ht : L.look t = some ti) (hd : ti.d = .slice el) (hte : L.look el = some te) (hsz : te.size = sz) (h : K (.eptr i v (j * sz)) hp) : LO P F ⟨d, .indexAddr t x y, ty, pos, aft, g⟩ ρ hp K := by
  refine LO.same (fun M e w he hh => ?_) h
  have h1 := he x (by first | (simp [Op.operands]; done) | simp [Op.operands, Call.operands])
  rw [hx] at h1
  simp only [RA] at h1
  obtain ⟨xs, ho, _⟩ := hh.at_ i _ hi
  obtain ⟨A, c, rfl, _⟩ := ownO_shape ho
  obtain ⟨ad, rfl⟩ := ho.some_ (by omega)
  have h2 := he y (by first | (simp [Op.operands]; done) | simp [Op.operands, Call.operands])
  rw [hy] at h2
  simp only [RA, RT] at h2
  refine ⟨.pointer (some (Addr.add ad (j * sz))), ?_, by simp only [RA]; exact ⟨_, _, _, rfl, rfl⟩⟩
  subst hz
  simp [execOp, Instr.indexAt, h1.1, h2, asIntOf, run_underlying (hL.slice ht hd), hL.sizeOf hte, hsz, hj]
theorem own_load {M : Mm} {w : World} (hh : HeapOk F M hp w) {i n sz : Nat} {ad : Addr} {m c : Nat} {e' : TypeId} {cs : List T} (hi : hp[i]? = some (.row (.slice (some ad) m c) e' sz n cs)) :
    ∃ xs, RTs M cs xs ∧ ∀ j x, xs[j]? = some x → w.cell? (ad.add j) = some x := by
  obtain ⟨xs, ho, hx, _⟩ := hh.at_ i _ hi
  exact ⟨xs, hx, ho.cells⟩
theorem lo_load_e1 (hL : TabOk P L) {t : TypeId} {ti : TI} {x : Operand} {i off n sz : Nat} {v : Value} {e' : TypeId} {cs : List T} {u : T} (hx : ρ x = .eptr i v off) (hi : hp[i]? = some (.row v e' sz n cs)) (ht : L.look t = some ti) (ha : ti.agg = false) (hv : cs[off]? = some u) (h : K (.c u) hp) : LO P F ⟨d, .load t x, ty, pos, aft, g⟩ ρ hp K := by
  refine LO.same (fun M e w he hh => ?_) h
  have h1 := he x (by first | (simp [Op.operands]; done) | simp [Op.operands, Call.operands])
  rw [hx] at h1
  simp only [RA] at h1
  obtain ⟨ad, n', c, rfl, hu⟩ := h1
  obtain ⟨xs, hxs, hat⟩ := own_load hh hi
  obtain ⟨u', hu1, hu2⟩ := hxs.get hv
  refine ⟨u', ?_, by simp only [RA]; exact hu2⟩
  simp [execOp, Instr.loadAt, hu, Instr.sureAddr, loadVar, hL.isAgg ht, ha, hat off u' hu1]
theorem lo_load_e (hL : TabOk P L) {t : TypeId} {ti : TI} {x : Operand} {i off n sz : Nat} {v : Value} {e' : TypeId} {cs ts : List T} (hx : ρ x = .eptr i v off) (hi : hp[i]? = some (.row v e' sz n cs)) (ht : L.look t = some ti) (ha : ti.agg = true) (hts : (cs.drop off).take ti.size = ts) (hl : ts.length = ti.size) (h : K (.c (.agg ts)) hp) : LO P F ⟨d, .load t x, ty, pos, aft, g⟩ ρ hp K := by
  refine LO.same (fun M e w he hh => ?_) h
  have h1 := he x (by first | (simp [Op.operands]; done) | simp [Op.operands, Call.operands])
  rw [hx] at h1
  simp only [RA] at h1
  obtain ⟨ad, n', c, rfl, hu⟩ := h1
  obtain ⟨xs, hxs, hat⟩ := own_load hh hi
  have hys : RTs M ts ((xs.drop off).take ti.size) := by rw [← hts]; exact (hxs.drop off).take ti.size
  have hlen : ((xs.drop off).take ti.size).length = ti.size := by rw [hys.len, hl]
  have hlc : (loadCells (ad.add off) ti.size).run P w = .ok ((xs.drop off).take ti.size).toArray w := by
    have := run_loadCells_list (P := P) w (ad.add off) ((xs.drop off).take ti.size) (fun j v hj => by
      rw [add_add']
      rw [List.getElem?_take] at hj
      split at hj
      · rw [List.getElem?_drop] at hj
        exact hat _ v hj
      · cases hj)
    rwa [hlen] at this
  refine ⟨.agg ((xs.drop off).take ti.size).toArray, ?_, by simp only [RA, RT]; exact ⟨_, rfl, hys⟩⟩
  simp [execOp, Instr.loadAt, hu, Instr.sureAddr, loadVar, hL.isAgg ht, ha, hL.sizeOf ht, hlc]
theorem lo_len (hL : TabOk P L) {t el : TypeId} {ti : TI} {x : Operand} {n sz : Nat} {cs : List T} (hx : ρ x = .c (.row n sz cs)) (ht : L.look t = some ti) (hd : ti.d = .slice el) (h : n ≤ 9223372036854775807 → K (.c (.lit (.int .i64 n))) hp) : LO P F ⟨d, .call { callee := .builtin .len, args := #[x], argTypes := #[t] }, ty, pos, aft, g⟩ ρ hp K := by
  refine ⟨fun M e w he hh => ?_⟩
  have h1 := he x (by first | (simp [Op.operands]; done) | simp [Op.operands, Call.operands])
  rw [hx] at h1
  simp only [RA, RT] at h1
  obtain ⟨A, c, xs, hu, _, hn, _⟩ := h1
  have : (execOp e ⟨d, .call { callee := .builtin .len, args := #[x], argTypes := #[t] }, ty, pos, aft, g⟩).run P w = .ok (.value (.int .i64 n)) w := by
    simp [execOp, resolve, invoke, builtin, Builtin.len_, hu, run_underlying (hL.slice ht hd), goInt]
  rw [this]
  exact ⟨M, _, hp, h hn, Ext.refl _ _, hh, by simp only [RA, RT]⟩
theorem lo_len_own (hL : TabOk P L) {t el : TypeId} {ti : TI} {x : Operand} {i n sz : Nat} {v : Value} {e' : TypeId} {cs : List T} (hx : ρ x = .own i v) (hi : hp[i]? = some (.row v e' sz n cs)) (ht : L.look t = some ti) (hd : ti.d = .slice el) (h : n ≤ 9223372036854775807 → K (.c (.lit (.int .i64 n))) hp) : LO P F ⟨d, .call { callee := .builtin .len, args := #[x], argTypes := #[t] }, ty, pos, aft, g⟩ ρ hp K := by
  refine ⟨fun M e w he hh => ?_⟩
  have h1 := he x (by first | (simp [Op.operands]; done) | simp [Op.operands, Call.operands])
  rw [hx] at h1
  simp only [RA] at h1
  obtain ⟨xs, ho, _⟩ := hh.at_ i _ hi
  obtain ⟨A, c, rfl, hnc, hc⟩ := ownO_shape ho
  have : (execOp e ⟨d, .call { callee := .builtin .len, args := #[x], argTypes := #[t] }, ty, pos, aft, g⟩).run P w = .ok (.value (.int .i64 n)) w := by
    simp [execOp, resolve, invoke, builtin, Builtin.len_, h1.1, run_underlying (hL.slice ht hd), goInt]
  rw [this]
  exact ⟨M, _, hp, h (Nat.le_trans hnc hc), Ext.refl _ _, hh, by simp only [RA, RT]⟩
theorem lo_len_str (hL : TabOk P L) {t : TypeId} {ti : TI} {x : Operand} {s : ByteArray} (hx : ρ x = .c (.lit (.string s))) (ht : L.look t = some ti) (hd : ti.d = .string) (h : K (.c (.lit (.int .i64 s.size))) hp) : LO P F ⟨d, .call { callee := .builtin .len, args := #[x], argTypes := #[t] }, ty, pos, aft, g⟩ ρ hp K := by
  refine LO.same (fun M e w he hh => ?_) h
  have h1 := he x (by first | (simp [Op.operands]; done) | simp [Op.operands, Call.operands])
  rw [hx] at h1
  simp only [RA, RT] at h1
  exact ⟨_, by simp [execOp, resolve, invoke, builtin, Builtin.len_, h1, run_underlying (hL.string ht hd), goInt]; rfl, by simp only [RA, RT]⟩
theorem lo_len_nil (hL : TabOk P L) {t el : TypeId} {ti : TI} {x : Operand} (hx : ρ x = .c (.lit (.slice none 0 0))) (ht : L.look t = some ti) (hd : ti.d = .slice el) (h : K (.c (.lit (.int .i64 0))) hp) : LO P F ⟨d, .call { callee := .builtin .len, args := #[x], argTypes := #[t] }, ty, pos, aft, g⟩ ρ hp K := by
  refine LO.same (fun M e w he hh => ?_) h
  have h1 := he x (by first | (simp [Op.operands]; done) | simp [Op.operands, Call.operands])
  rw [hx] at h1
  simp only [RA, RT] at h1
  exact ⟨_, by simp [execOp, resolve, invoke, builtin, Builtin.len_, h1, run_underlying (hL.slice ht hd), goInt]; rfl, by simp only [RA, RT]⟩
theorem HeapOk.below {M M' : Mm} {w w' : World} (hh : HeapOk F M hp w) (hb : Below w.heap.size w w') (hM : Ext (fr w.heap.size) M M') (hm : MemOk M' w') : HeapOk F M' hp w' :=
  hh.step hp.length hb.os hb.tape hb.output hb.size (fun b hlt _ => hb.block b hlt) hM (fun p v h1 _ => hm p v h1) (fun _ _ => rfl) (fun x' hx' => by rw [List.getElem?_eq_none (Nat.le_refl _)] at hx'; cases hx')
theorem MemOk.below {M : Mm} {w w' : World} (h : MemOk M w) (hb : Below w.heap.size w w') : MemOk M w' := by
  intro p v hp
  obtain ⟨h1, h2⟩ := h p v hp
  exact ⟨(hb.cell (World.block_lt_of_cell? w p h1)).trans h1, h2⟩
mutual
theorem cl_sound {M : Mm} : ∀ (av : AV) (t : T) (u : Value), Rz [] av t → RA M av u → RT M t u
  | .c t, t', u, hz, hr => by
    simp only [Rz] at hz
    simp only [RA] at hr
    rcases hz with rfl | ⟨rfl, sz, h0, rfl⟩
    · exact hr
    · exact rt_nil h0 hr
  | .own i v, t', u, hz, hr => by simp [Rz] at hz
  | .agg cs, t', u, hz, hr => by
    simp only [Rz] at hz
    obtain ⟨ts, rfl, h1⟩ := hz
    simp only [RA] at hr
    obtain ⟨xs, rfl, h2⟩ := hr
    simp only [RT]
    exact ⟨xs, rfl, cls_sound cs ts xs h1 h2⟩
  | .tup cs, t', u, hz, hr => by
    simp only [Rz] at hz
    obtain ⟨ts, rfl, h1⟩ := hz
    simp only [RA] at hr
    obtain ⟨xs, rfl, h2⟩ := hr
    simp only [RT]
    exact ⟨xs, rfl, cls_sound cs ts xs h1 h2⟩
  | .fn f cap, t', u, hz, hr => by
    simp only [Rz] at hz
    obtain ⟨ts, rfl, h1⟩ := hz
    simp only [RA] at hr
    obtain ⟨xs, rfl, h2⟩ := hr
    simp only [RT]
    exact ⟨xs, rfl, cls_sound cap ts xs h1 h2⟩
  | .ptr i b off, t', u, hz, hr => by simp [Rz] at hz
  | .eptr _ _ _, _, _, hz, _ => by simp only [Rz] at hz
  | .junk, _, _, hz, _ => by simp only [Rz] at hz
theorem cls_sound {M : Mm} : ∀ (asq : List AV) (ts : List T) (us : List Value), Rzs [] asq ts → RAs M asq us → RTs M ts us
  | [], ts, us, hz, hr => by
    simp only [Rzs] at hz
    simp only [RAs] at hr
    subst hz; subst hr
    simp only [RTs]
  | a :: asq, ts, us, hz, hr => by
    simp only [Rzs] at hz
    obtain ⟨t, r, rfl, h1, h2⟩ := hz
    simp only [RAs] at hr
    obtain ⟨x, xs, rfl, h3, h4⟩ := hr
    simp only [RTs]
    exact ⟨x, xs, rfl, cl_sound a t x h1 h3, cls_sound asq r xs h2 h4⟩
end
theorem ev_all {M : Mm} {e : Operand → Value} : ∀ xs : List Operand, (∀ x ∈ xs, RA M (ρ x) (e x)) → RAs M (xs.map ρ) (xs.map e)
  | [], _ => by simp [RAs]
  | y :: ys, he => by simp only [List.map_cons, RAs]; exact ⟨_, _, rfl, he y (by simp), ev_all ys fun x hx => he x (by simp [hx])⟩
theorem run_call {f : FuncId} (hf : Enters P f) {e : Operand → Value} {y : Operand} {cs : List Value} (hy : e y = .func (.func f) #[] cs.toArray) (xs : List Operand) (ats : Array TypeId) (w : World) :
    (execOp e ⟨d, .call { callee := .value y, args := xs.toArray, argTypes := ats }, ty, pos, aft, g⟩).run P w = .ok (.enter f (xs.map e ++ cs).toArray) w := by
  obtain ⟨fn, h1, h2, h3⟩ := hf
  simp [execOp, resolve, hy, Deferred.ofValue, invoke, callFunc, h1]
  rw [if_neg (by simpa using h2), if_neg (fun e => by rw [e] at h3; cases h3)]
/-- calling a function -/
theorem lo_call {f : FuncId} {y : Operand} {xs : List Operand} {ats : Array TypeId} {ts : List T} {R : T → Prop} {cap : List AV} (hc : AF P f ts R) (hy : ρ y = .fn (.func f) cap) (hx : Rzs [] (xs.map ρ ++ cap) ts) (h : ∀ r, R r → K (.c r) hp) : LO P F ⟨d, .call { callee := .value y, args := xs.toArray, argTypes := ats }, ty, pos, aft, g⟩ ρ hp K := by
  refine ⟨fun M e w he hh => ?_⟩
  obtain ⟨hf, hcall⟩ := hc
  have h1 := he y (by first | (simp [Op.operands]; done) | simp [Op.operands, Call.operands])
  rw [hy] at h1
  simp only [RA] at h1
  obtain ⟨cs, hu, hcs⟩ := h1
  rw [run_call hf hu]
  have hargs := cls_sound _ _ _ hx ((ev_all xs (fun x hx => he x (by simp [Op.operands, Call.operands, hx]))).app hcs)
  refine (hcall M w _ hh.glob hh.mem hargs).mono ?_
  rintro en w' ⟨v, r, M', rfl, hR, hext, hm, hrt, hb⟩
  exact ⟨v, rfl, M', _, hp, h r hR, (hext.low hh.frm.size), hh.below hb hext hm, by simp only [RA]; exact hrt⟩
theorem row_rd {M : Mm} {w : World} (hm : MemOk M w) {n sz : Nat} {cs : List T} {u : Value} (h : RT M (.row n sz cs) u) : ∃ A c xs, u = .slice A n c ∧ n ≤ maxLen ∧ Rd w w.heap.size sz A n xs ∧ RTs M cs xs ∧ OneAll xs := by
  simp only [RT] at h
  obtain ⟨A, c, xs, rfl, _, hn, hsz, hl, hA, hx⟩ := h
  refine ⟨A, c, xs, rfl, hn, ⟨hl, fun h0 => ?_⟩, hx, fun x hx => ?_⟩
  · obtain ⟨ad, rfl, hat⟩ := hA h0
    have h0l : 0 < xs.length := by rw [hl]; exact Nat.mul_pos h0 hsz
    have := World.block_lt_of_cell? w _ (hm _ _ (hat 0 _ (List.getElem?_eq_getElem h0l))).1
    rw [add_block] at this
    exact ⟨ad, rfl, this, fun j u hu => (hm _ _ (hat j u hu)).1⟩
  · obtain ⟨j, hj, rfl⟩ := List.getElem_of_mem hx
    have h0 : 0 < n := by
      rcases Nat.eq_zero_or_pos n with h | h
      · subst h; simp at hl; rw [hl] at hj; simp at hj
      · exact h
    obtain ⟨ad, rfl, hat⟩ := hA h0
    exact (hm _ _ (hat j _ (List.getElem?_eq_getElem hj))).2
theorem mem_fresh {M : Mm} {w : World} (hm : MemOk M w) {p : Addr} (hp : w.heap.size ≤ p.block) : M p = none := by
  cases hc : M p with
  | none => rfl
  | some v => have := World.block_lt_of_cell? w p (hm p v hc).1; omega
theorem run_app (hL : TabOk P L) {t el : TypeId} {ti te : TI} (ht : L.look t = some ti) (hd : ti.d = .slice el) (hte : L.look el = some te) {M : Mm} {w : World} (hm : MemOk M w) (hsz : 0 < te.size) {v u : Value} {n m : Nat} {xs : List Value} {ts : List T} (hown : OwnsO w el te.size v n xs) (hu : RT M (.row m te.size ts) u)
    (h63 : n + m ≤ maxLen) (hbytes : (n + m) * te.bytes ≤ 140737488355328) :
    ∃ v' w' ys, (Builtin.append_ #[t, t] ty #[v, u]).run P w = .ok v' w' ∧ OwnsO w' el te.size v' (n + m) (xs ++ ys) ∧ RTs M ts ys ∧ OneAll ys ∧ w.grownBy w' v.ownBlock ∧ (v'.ownBlock = v.ownBlock ∨ v'.ownBlock = some w.heap.size) := by
  obtain ⟨inf, z, h1, h2, h3, h4, h5, h6, _⟩ := hL.info hte
  obtain ⟨A, c, ys, rfl, _, hrd, hys, hone⟩ := row_rd hm hu
  have hsrc : Src P inf.size t (.slice A m c) m ys w := by
    rcases Nat.eq_zero_or_pos m with h0 | h0
    · subst h0
      have : ys = [] := List.eq_nil_of_length_eq_zero (by simpa using hrd.1)
      subst this
      exact ⟨.inl ⟨el, hL.slice ht hd⟩, fun _ => rfl, by cases A <;> simp [Builtin.firstCells, loadCells, loadCellsFrom], by cases A <;> simp [Builtin.firstCells, loadCells, loadCellsFrom], by simp, fun _ h => by cases h⟩
    · obtain ⟨ad, rfl, _, hc⟩ := hrd.2 h0
      exact Src.ofSlice w (hL.slice ht hd) ad m c ys (by rw [h2]; exact hrd.1) hc hone
  obtain ⟨v', w', g1, g2, g3, g4⟩ := run_append_o (P := P) w t t ty el inf z te.size te.bytes (hL.slice ht hd) h1 h4 h2 h3 h6.1 hsz v n xs hown _ m ys hsrc h63 hbytes
  exact ⟨v', w', ys, g1, g2, hys, hone, g3, g4⟩
theorem own_one {w : World} {sz n : Nat} {e : TypeId} {v : Value} {xs : List Value} (h : OwnsO w e sz v n xs) : v.oneCell' = true := by
  obtain ⟨A, c, rfl, _⟩ := ownO_shape h
  rfl
theorem OneAll.app {xs ys : List Value} (h : OneAll xs) (h' : OneAll ys) : OneAll (xs ++ ys) := fun x hx => (List.mem_append.1 hx).elim (h x) (h' x)
theorem exec_append {e : Operand → Value} {x y : Operand} {t : TypeId} (w : World) {v' : Value} {w' : World} (h : (Builtin.append_ #[t, t] ty #[e x, e y]).run P w = .ok v' w') :
    (execOp e ⟨d, .call { callee := .builtin .append, args := #[x, y], argTypes := #[t, t] }, ty, pos, aft, g⟩).run P w = .ok (.value v') w' := by
  simp [execOp, resolve, invoke, builtin, h]
theorem lo_app (hL : TabOk P L) {t el : TypeId} {ti te : TI} {x y : Operand} {i n m sz : Nat} {v : Value} {cs ts : List T} (hx : ρ x = .own i v) (hi : hp[i]? = some (.row v el sz n cs)) (hy : ρ y = .c (.row m sz ts)) (ht : L.look t = some ti) (hd : ti.d = .slice el) (hte : L.look el = some te) (hsz : te.size = sz) (h63 : n + m ≤ maxLen) (hbytes : (n + m) * te.bytes ≤ 140737488355328)
    (h : ∀ v', K (.own i v') (hp.set i (.row v' el sz (n + m) (cs ++ ts)))) : LO P F ⟨d, .call { callee := .builtin .append, args := #[x, y], argTypes := #[t, t] }, ty, pos, aft, g⟩ ρ hp K := by
  subst hsz
  refine ⟨fun M e w he hh => ?_⟩
  have h1 := he x (by first | (simp [Op.operands]; done) | simp [Op.operands, Call.operands])
  rw [hx] at h1
  simp only [RA] at h1
  have h2 := he y (by first | (simp [Op.operands]; done) | simp [Op.operands, Call.operands])
  rw [hy] at h2
  simp only [RA] at h2
  obtain ⟨xs, ho, hxs, hone, hsz⟩ := hh.at_ i _ hi
  obtain ⟨v', w', ys, g1, g2, g3, g4, g5, g6⟩ := run_app (ty := ty) hL ht hd hte hh.mem hsz ho h2 h63 hbytes
  rw [← h1.1] at g1
  rw [exec_append w g1]
  refine ⟨M, _, _, h v', Ext.refl _ _, ?_, by simp only [RA]; exact ⟨trivial, own_one g2⟩⟩
  refine hh.step i g5.os g5.tape g5.output g5.size (fun k hk hne => g5.block k hk (fun e => hne _ hi e.symm)) (Ext.refl _ _) (fun p v h1 h2 => by rw [h2] at h1; cases h1) (fun j hj => by rw [List.getElem?_set_ne (Ne.symm hj)]) (fun x' hx' => ?_)
  have hlt : i < hp.length := (List.getElem?_eq_some_iff.1 hi).1
  rw [List.getElem?_set_self hlt] at hx'
  obtain rfl : Blk.row v' el te.size (n + m) (cs ++ ts) = x' := by injection hx'
  refine ⟨⟨_, g2, hxs.app g3, hone.app g4, hsz⟩, fun b hb => ?_⟩
  rcases g6 with g6 | g6
  · exact .inl ⟨_, hi, by simpa [Blk.blk, g6] using hb⟩
  · obtain rfl : w.heap.size = b := by simpa [Blk.blk, g6] using hb
    exact .inr ⟨Nat.le_refl _, fun p hp => mem_fresh hh.mem (by omega)⟩
theorem push_row {M M' : Mm} {w w' : World} (hh : HeapOk F M hp w) (hos : w'.os = w.os) (htape : w'.tape = w.tape) (hout : w'.output = w.output) (hsz : w.heap.size ≤ w'.heap.size) (hblk : ∀ b, b < w.heap.size → w'.heap[b]? = w.heap[b]?)
    (hM : Ext (fr w.heap.size) M M') (hnew : ∀ p v, M' p = some v → M p = none → w'.cell? p = some v ∧ v.oneCell' = true) {x : Blk} (hx : BlkOk M' w' x) (hxb : ∀ b, x.blk = some b → w.heap.size ≤ b ∧ ∀ p : Addr, p.block = b → M' p = none) : HeapOk F M' (hp ++ [x]) w' := by
  refine hh.step hp.length hos htape hout hsz (fun b hb _ => hblk b hb) hM hnew (fun j hj => ?_) (fun x' hx' => ?_)
  · rcases Nat.lt_or_ge j hp.length with h | h
    · rw [List.getElem?_append_left h]
    · rw [List.getElem?_eq_none (by simp; omega), List.getElem?_eq_none (by omega)]
  · have : x' = x := by simpa using hx'.symm
    subst this
    exact ⟨hx, fun b hb => .inr (hxb b hb)⟩
end
end Go.Proofs.Ytgjfiedepfjdcaa
namespace Go.Proofs.Ytgjfiedepfjdcaa
open Go.RowKit
theorem str_toList (s : ByteArray) : s.toList = s.data.toList := ByteArray.toList_eq s
theorem str_eq {a b : ByteArray} : (a.toList == b.toList) = decide (a = b) := by
  by_cases h : a = b
  · subst h; simp
  · have : ¬ a.toList = b.toList := fun e => h (ByteArray.ext (Array.toList_inj.1 (by rwa [str_toList, str_toList] at e)))
    simp [h, this]
section
variable {P : Program} {F : Frm} {L : Tab} {d : Option Tmp} {ty : TypeId} {pos : String} {aft : Array Edge} {g : Option (Nat × Bool)} {ρ : Operand → AV} {hp : List Blk} {K : AV → List Blk → Prop}
/-- an operation on two literals -/
theorem lo_bin {op : BinOp} {t t' : TypeId} {x y : Operand} {a b v : Value} (hx : ρ x = .c (.lit a)) (hy : ρ y = .c (.lit b)) (hg : ∀ w, (eqGuard op t x y a b).run P w = .ok () w) (hr : ∀ w, (binOp op t a b).run P w = .ok v w) (h : K (.c (.lit v)) hp) : LO P F ⟨d, .binOp op t x y t', ty, pos, aft, g⟩ ρ hp K := by
  refine LO.same (fun M e w he hh => ?_) h
  have h1 := he x (by first | (simp [Op.operands]; done) | simp [Op.operands, Call.operands])
  rw [hx] at h1
  simp only [RA, RT] at h1
  have h2 := he y (by first | (simp [Op.operands]; done) | simp [Op.operands, Call.operands])
  rw [hy] at h2
  simp only [RA, RT] at h2
  exact ⟨v, by simp [execOp, h1, h2, hg, hr], by simp only [RA, RT]⟩
theorem guard_int {op : BinOp} {t : TypeId} {x y : Operand} {k k' : IntKind} {a b : Int} (w : World) : (eqGuard op t x y (.int k a) (.int k' b)).run P w = .ok () w := by
  unfold eqGuard; simp
theorem guard_str {op : BinOp} {t : TypeId} {x y : Operand} {a b : ByteArray} (w : World) : (eqGuard op t x y (.string a) (.string b)).run P w = .ok () w := by
  unfold eqGuard; simp
variable {t t' : TypeId} {x y : Operand} {k : IntKind} {a b : Int}
theorem lo_lss (hx : ρ x = .c (.lit (.int k a))) (hy : ρ y = .c (.lit (.int k b))) (h : K (.c (.lit (.bool (decide (a < b))))) hp) : LO P F ⟨d, .binOp .lss t x y t', ty, pos, aft, g⟩ ρ hp K :=
  lo_bin hx hy guard_int (fun w => by simp [binOp, Op.intCmp]) h
theorem lo_leq (hx : ρ x = .c (.lit (.int k a))) (hy : ρ y = .c (.lit (.int k b))) (h : K (.c (.lit (.bool (decide (a ≤ b))))) hp) : LO P F ⟨d, .binOp .leq t x y t', ty, pos, aft, g⟩ ρ hp K :=
  lo_bin hx hy guard_int (fun w => by simp [binOp, Op.intCmp]) h
theorem lo_gtr (hx : ρ x = .c (.lit (.int k a))) (hy : ρ y = .c (.lit (.int k b))) (h : K (.c (.lit (.bool (decide (b < a))))) hp) : LO P F ⟨d, .binOp .gtr t x y t', ty, pos, aft, g⟩ ρ hp K :=
  lo_bin hx hy guard_int (fun w => by simp [binOp, Op.intCmp]) h
theorem lo_geq (hx : ρ x = .c (.lit (.int k a))) (hy : ρ y = .c (.lit (.int k b))) (h : K (.c (.lit (.bool (decide (b ≤ a))))) hp) : LO P F ⟨d, .binOp .geq t x y t', ty, pos, aft, g⟩ ρ hp K :=
  lo_bin hx hy guard_int (fun w => by simp [binOp, Op.intCmp]) h
theorem lo_eql (hx : ρ x = .c (.lit (.int k a))) (hy : ρ y = .c (.lit (.int k b))) (h : K (.c (.lit (.bool (decide (a = b))))) hp) : LO P F ⟨d, .binOp .eql t x y t', ty, pos, aft, g⟩ ρ hp K :=
  lo_bin hx hy guard_int (fun w => by simp [binOp, Op.intCmp]; rfl) h
theorem lo_neq (hx : ρ x = .c (.lit (.int k a))) (hy : ρ y = .c (.lit (.int k b))) (h : K (.c (.lit (.bool (!decide (a = b))))) hp) : LO P F ⟨d, .binOp .neq t x y t', ty, pos, aft, g⟩ ρ hp K :=
  lo_bin hx hy guard_int (fun w => by simp [binOp, Op.intCmp]; rfl) h
theorem lo_add (hx : ρ x = .c (.lit (.int k a))) (hy : ρ y = .c (.lit (.int k b))) {r : Int} (hr : k.wrap (a + b) = r) (h : K (.c (.lit (.int k r))) hp) : LO P F ⟨d, .binOp .add t x y t', ty, pos, aft, g⟩ ρ hp K :=
  lo_bin hx hy guard_int (fun w => by simp [binOp, Op.intArith, hr]) h
theorem lo_sub (hx : ρ x = .c (.lit (.int k a))) (hy : ρ y = .c (.lit (.int k b))) {r : Int} (hr : k.wrap (a - b) = r) (h : K (.c (.lit (.int k r))) hp) : LO P F ⟨d, .binOp .sub t x y t', ty, pos, aft, g⟩ ρ hp K :=
  lo_bin hx hy guard_int (fun w => by simp [binOp, Op.intArith, hr]) h
/-- the next number: no bound is passed -/
theorem lo_inc {n : Nat} (hx : ρ x = .c (.lit (.int .i64 n))) (hy : ρ y = .c (.lit (.int .i64 1))) (hb : n < 9223372036854775807) (h : K (.c (.lit (.int .i64 ((n + 1 : Nat) : Int)))) hp) : LO P F ⟨d, .binOp .add t x y t', ty, pos, aft, g⟩ ρ hp K :=
  lo_add hx hy (by rw [IntWalk.i64_in _ (by omega)]; omega) h
variable {s s' : ByteArray}
theorem lo_eqs (hx : ρ x = .c (.lit (.string s))) (hy : ρ y = .c (.lit (.string s'))) (h : K (.c (.lit (.bool (decide (s = s'))))) hp) : LO P F ⟨d, .binOp .eql t x y t', ty, pos, aft, g⟩ ρ hp K :=
  lo_bin hx hy guard_str (fun w => by simp only [binOp, Op.stringOp, str_eq, Sem.run_pure]) h
theorem lo_nes (hx : ρ x = .c (.lit (.string s))) (hy : ρ y = .c (.lit (.string s'))) (h : K (.c (.lit (.bool (!decide (s = s'))))) hp) : LO P F ⟨d, .binOp .neq t x y t', ty, pos, aft, g⟩ ρ hp K :=
  lo_bin hx hy guard_str (fun w => by simp only [binOp, Op.stringOp, str_eq, Sem.run_pure]) h
theorem lo_cat (hx : ρ x = .c (.lit (.string s))) (hy : ρ y = .c (.lit (.string s'))) (hb : s.size + s'.size ≤ 9223372036854775807) (h : K (.c (.lit (.string (s ++ s')))) hp) : LO P F ⟨d, .binOp .add t x y t', ty, pos, aft, g⟩ ρ hp K :=
  lo_bin hx hy guard_str (fun w => by
    have : ¬ ((s.size + s'.size : Nat) : Int) > IntKind.i64.max := by simp [IntKind.max, IntKind.signed, IntKind.bits]; omega
    simp only [binOp, Op.stringOp, if_neg this, Sem.run_pure]) h
def strLt (a b : ByteArray) : Bool := Op.bytesLess a.toList b.toList
theorem lo_lts (hx : ρ x = .c (.lit (.string s))) (hy : ρ y = .c (.lit (.string s'))) (h : K (.c (.lit (.bool (strLt s s')))) hp) : LO P F ⟨d, .binOp .lss t x y t', ty, pos, aft, g⟩ ρ hp K :=
  lo_bin hx hy guard_str (fun w => by simp only [binOp, Op.stringOp, strLt, Sem.run_pure]) h
theorem lo_gts (hx : ρ x = .c (.lit (.string s))) (hy : ρ y = .c (.lit (.string s'))) (h : K (.c (.lit (.bool (!(strLt s s' || decide (s = s')))))) hp) : LO P F ⟨d, .binOp .gtr t x y t', ty, pos, aft, g⟩ ρ hp K :=
  lo_bin hx hy guard_str (fun w => by simp only [binOp, Op.stringOp, strLt, str_eq, Sem.run_pure]) h
theorem lo_les (hx : ρ x = .c (.lit (.string s))) (hy : ρ y = .c (.lit (.string s'))) (h : K (.c (.lit (.bool (strLt s s' || decide (s = s'))))) hp) : LO P F ⟨d, .binOp .leq t x y t', ty, pos, aft, g⟩ ρ hp K :=
  lo_bin hx hy guard_str (fun w => by simp only [binOp, Op.stringOp, strLt, str_eq, Sem.run_pure]) h
theorem lo_ges (hx : ρ x = .c (.lit (.string s))) (hy : ρ y = .c (.lit (.string s'))) (h : K (.c (.lit (.bool (!strLt s s')))) hp) : LO P F ⟨d, .binOp .geq t x y t', ty, pos, aft, g⟩ ρ hp K :=
  lo_bin hx hy guard_str (fun w => by simp only [binOp, Op.stringOp, strLt, Sem.run_pure]) h
theorem lo_not {c : Bool} (hx : ρ x = .c (.lit (.bool c))) (h : K (.c (.lit (.bool !c))) hp) : LO P F ⟨d, .unOp .not t x, ty, pos, aft, g⟩ ρ hp K := by
  refine LO.same (fun M e w he hh => ?_) h
  have h1 := he x (by first | (simp [Op.operands]; done) | simp [Op.operands, Call.operands])
  rw [hx] at h1
  simp only [RA, RT] at h1
  exact ⟨_, by simp [execOp, h1, Op.unary]; rfl, by simp only [RA, RT]⟩
end
end Go.Proofs.Ytgjfiedepfjdcaa
