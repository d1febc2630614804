/-
  Abstract states: the types' table, freezing, entering a function and its results, calls.
-/
import Derived.Test.YthgackidonocpaaAb2
namespace Go.Proofs.Ythgackidonocpaa
open Go.RowKit

inductive TD where
  | other
  | slice (e : TypeId)
  | struct (fs : List (Nat × Nat))
  | int (k : IntKind)
  | bool
  | string
  | array (len : Nat) (e : TypeId)
structure TI where
  size : Nat
  bytes : Nat
  zero : List Value
  d : TD
def TI.agg (i : TI) : Bool := match i.d with | .struct _ => true | .array _ _ => true | _ => false
inductive Tab where
  | nil
  | node (k : Nat) (i : TI) (l r : Tab)
def Tab.look (t : Nat) : Tab → Option TI
  | .nil => none
  | .node k i l r => cond (Nat.beq t k) (some i) (cond (Nat.blt t k) (l.look t) (r.look t))

def veq : Value → Value → Bool
  | .bool a, .bool b => a == b
  | .int k a, .int k' b => k == k' && a == b
  | .string a, .string b => a.size == 0 && b.size == 0
  | .pointer none, .pointer none => true
  | .slice none 0 0, .slice none 0 0 => true
  | .map none, .map none => true
  | .nilFunc, .nilFunc => true
  | .nilIface, .nilIface => true
  | _, _ => false
theorem veq_eq : ∀ {a b : Value}, veq a b = true → a = b
  | .bool a, .bool b, h => by simp [veq] at h; rw [h]
  | .int k a, .int k' b, h => by simp [veq] at h; rw [h.1, h.2]
  | .string a, .string b, h => by
    simp [veq] at h
    rw [h.1, h.2]
  | .pointer none, .pointer none, _ => rfl
  | .slice none 0 0, .slice none 0 0, _ => rfl
  | .map none, .map none, _ => rfl
  | .nilFunc, .nilFunc, _ => rfl
  | .nilIface, .nilIface, _ => rfl
def veqs : List Value → List Value → Bool
  | [], [] => true
  | a :: l, b :: r => veq a b && veqs l r
  | _, _ => false
theorem veqs_eq : ∀ {l r : List Value}, veqs l r = true → l = r
  | [], [], _ => rfl
  | a :: l, b :: r, h => by
    simp only [veqs, Bool.and_eq_true] at h
    rw [veq_eq h.1, veqs_eq h.2]
  | [], _ :: _, h => by cases h
  | _ :: _, [], h => by cases h

def fldsB (P : Program) : List Field → List (Nat × Nat) → Bool
  | [], [] => true
  | f :: l, (o, s) :: r => f.offset == o && (P.info? f.type).map (·.size) == some s && fldsB P l r
  | _, _ => false
def descB (P : Program) : TypeDesc → TD → Bool
  | .slice e, .slice e' => e == e'
  | .struct fs, .struct l => fldsB P fs.toList l
  | .int k, .int k' => k == k'
  | .bool, .bool => true
  | .string, .string => true
  | .array n e, .array n' e' => n == n' && e == e'
  | .pointer _, .other => true
  | .map _ _, .other => true
  | .func _ _ _, .other => true
  | .interface _, .other => true
  | _, _ => false
def entB (P : Program) (t : TypeId) (i : TI) : Bool :=
  (match P.info? t with
   | some inf => inf.size == i.size && inf.bytes == i.bytes && (match inf.zero with | some z => veqs z.cells.toList i.zero && (z.cells.size == i.size) && i.zero.all (·.oneCell') && ((match z with | .agg _ => true | _ => false) == i.agg) | none => false)
   | none => false) && (match P.underlying t with | some d => descB P d i.d | none => false)
def Tab.okB (P : Program) : Tab → Bool
  | .nil => true
  | .node k i l r => entB P k i && l.okB P && r.okB P
def TabOk (P : Program) (L : Tab) : Prop := ∀ t i, L.look t = some i → entB P t i = true
theorem tab_ok {P : Program} : ∀ {L : Tab}, L.okB P = true → TabOk P L
  | .nil, _, t, i, h => by simp [Tab.look] at h
  | .node k j l r, hk, t, i, h => by
    simp only [Tab.okB, Bool.and_eq_true] at hk
    simp only [Tab.look] at h
    cases hc : Nat.beq t k with
    | true =>
      rw [hc] at h
      simp only [cond_true, Option.some.injEq] at h
      rw [Nat.eq_of_beq_eq_true hc, ← h]; exact hk.1.1
    | false =>
      rw [hc] at h
      simp only [cond_false] at h
      cases hb : Nat.blt t k with
      | true => rw [hb] at h; exact tab_ok hk.1.2 t i h
      | false => rw [hb] at h; exact tab_ok hk.2 t i h

section
variable {P : Program} {F : Frm} {L : Tab}
theorem TabOk.info (hL : TabOk P L) {t : TypeId} {i : TI} (h : L.look t = some i) : ∃ inf z, P.info? t = some inf ∧ inf.size = i.size ∧ inf.bytes = i.bytes ∧ inf.zero = some z ∧ z.cells.toList = i.zero ∧ (z.cells.size = i.size ∧ OneAll i.zero) ∧ ((match z with | .agg _ => true | _ => false) = i.agg) := by
  have := hL t i h
  simp only [entB, Bool.and_eq_true] at this
  obtain ⟨h1, _⟩ := this
  split at h1
  · rename_i inf hinf
    simp only [Bool.and_eq_true, beq_iff_eq] at h1
    obtain ⟨⟨h2, h3⟩, h4⟩ := h1
    split at h4
    · rename_i z hz
      simp only [Bool.and_eq_true, beq_iff_eq] at h4
      exact ⟨inf, z, hinf, h2, h3, hz, veqs_eq h4.1.1.1, ⟨h4.1.1.2, fun x hx => List.all_eq_true.1 h4.1.2 x hx⟩, h4.2⟩
    · cases h4
  · cases h1
theorem TabOk.desc (hL : TabOk P L) {t : TypeId} {i : TI} (h : L.look t = some i) : ∃ d, P.underlying t = some d ∧ descB P d i.d = true := by
  have := hL t i h
  simp only [entB, Bool.and_eq_true] at this
  obtain ⟨_, h1⟩ := this
  split at h1
  · exact ⟨_, by assumption, h1⟩
  · cases h1
theorem TabOk.sizeOf (hL : TabOk P L) {t : TypeId} {i : TI} (h : L.look t = some i) (w : World) : (Go.sizeOf t).run P w = .ok i.size w := by
  obtain ⟨inf, _, h1, h2, _⟩ := hL.info h
  simp [Go.sizeOf, typeInfo, h1, h2]
theorem TabOk.zero (hL : TabOk P L) {t : TypeId} {i : TI} (h : L.look t = some i) : ∃ z, (∀ w, (zeroValue t).run P w = .ok z w) ∧ z.cells.toList = i.zero ∧ z.cells.size = i.size ∧ OneAll i.zero := by
  obtain ⟨inf, z, h1, _, _, h3, h4, h5, _⟩ := hL.info h
  exact ⟨z, fun w => by simp [zeroValue, typeInfo, h1, h3], h4, h5⟩
theorem TabOk.isAgg (hL : TabOk P L) {t : TypeId} {i : TI} (h : L.look t = some i) (w : World) : (Go.isAgg t).run P w = .ok i.agg w := by
  obtain ⟨d, h1, h2⟩ := hL.desc h
  simp only [Go.isAgg, Sem.run_bind, run_underlying h1, Result.andThen_ok]
  cases hd : i.d <;> rw [hd] at h2 <;> cases d <;> simp [descB] at h2 <;> simp [TI.agg, hd]
theorem TabOk.slice (hL : TabOk P L) {t e : TypeId} {i : TI} (h : L.look t = some i) (hd : i.d = .slice e) : P.underlying t = some (.slice e) := by
  obtain ⟨d, h1, h2⟩ := hL.desc h
  rw [hd] at h2
  cases d <;> simp [descB] at h2
  rw [h1, h2]
theorem TabOk.string (hL : TabOk P L) {t : TypeId} {i : TI} (h : L.look t = some i) (hd : i.d = .string) : P.underlying t = some .string := by
  obtain ⟨d, h1, h2⟩ := hL.desc h
  rw [hd] at h2
  cases d <;> simp [descB] at h2
  exact h1
theorem TabOk.int (hL : TabOk P L) {t : TypeId} {k : IntKind} {i : TI} (h : L.look t = some i) (hd : i.d = .int k) : P.underlying t = some (.int k) := by
  obtain ⟨d, h1, h2⟩ := hL.desc h
  rw [hd] at h2
  cases d <;> simp [descB] at h2
  rw [h1, h2]
theorem flds_get : ∀ {l : List Field} {r : List (Nat × Nat)} {k o s : Nat}, fldsB P l r = true → r[k]? = some (o, s) → ∃ f, l[k]? = some f ∧ f.offset = o ∧ (P.info? f.type).map (·.size) = some s
  | [], [], _, _, _, _, h => by simp at h
  | f :: l, (o', s') :: r, 0, o, s, hb, h => by
    simp only [fldsB, Bool.and_eq_true, beq_iff_eq] at hb
    simp only [List.getElem?_cons_zero, Option.some.injEq, Prod.mk.injEq] at h
    exact ⟨f, rfl, hb.1.1.trans h.1, hb.1.2.trans (by rw [h.2])⟩
  | f :: l, (o', s') :: r, k + 1, o, s, hb, h => by
    simp only [fldsB, Bool.and_eq_true] at hb
    obtain ⟨g, h1, h2⟩ := flds_get (k := k) hb.2 (by simpa using h)
    exact ⟨g, by simpa using h1, h2⟩
  | [], _ :: _, _, _, _, hb, _ => by cases hb
  | _ :: _, [], _, _, _, hb, _ => by cases hb
theorem TabOk.field (hL : TabOk P L) {t : TypeId} {i : TI} {fs : List (Nat × Nat)} (h : L.look t = some i) (hd : i.d = .struct fs) {k o s : Nat} (hk : fs[k]? = some (o, s)) :
    ∃ fields f, P.underlying t = some (.struct fields) ∧ fields[k]? = some f ∧ f.offset = o ∧ (P.info? f.type).map (·.size) = some s := by
  obtain ⟨d, h1, h2⟩ := hL.desc h
  rw [hd] at h2
  cases d <;> simp [descB] at h2
  rename_i fields
  obtain ⟨f, h3, h4⟩ := flds_get h2 hk
  exact ⟨fields, f, h1, by simpa using h3, h4⟩

/-! ### freezing -/
def frz (M : Mm) (B : Nat) (w : World) : Mm := fun p =>
  match M p with
  | some v => some v
  | none => if B ≤ p.block then (w.cell? p).bind fun v => if v.oneCell' = true then some v else none else none
theorem frz_sub (M : Mm) (B : Nat) (w : World) : Sub M (frz M B w) := fun p v h => by simp [frz, h]
theorem frz_ok {M : Mm} {w : World} (h : MemOk M w) (B : Nat) : MemOk (frz M B w) w := by
  intro p v hp
  unfold frz at hp
  split at hp
  · rename_i u hu
    obtain rfl : u = v := by injection hp
    exact h p u hu
  · split at hp
    · cases hc : w.cell? p with
      | none => rw [hc] at hp; simp at hp
      | some u =>
        rw [hc] at hp
        simp only [Option.bind_some] at hp
        split at hp
        · injection hp with hp; subst hp; exact ⟨rfl, by assumption⟩
        · cases hp
    · cases hp
theorem frz_ext {M : Mm} (B : Nat) (w : World) : Ext (fr B) M (frz M B w) := by
  refine ⟨frz_sub M B w, fun p v hp => ?_⟩
  unfold frz at hp
  split at hp
  · rename_i u hu; rw [← hp]; exact .inl hu
  · split at hp
    · exact .inr (by assumption)
    · cases hp
theorem frz_new {M : Mm} {B : Nat} {w : World} {p : Addr} {v : Value} (hn : M p = none) (hB : B ≤ p.block) (hc : w.cell? p = some v) (h1 : v.oneCell' = true) : frz M B w p = some v := by
  simp [frz, hn, hB, hc, h1]

mutual
def Rz (hp : List Blk) : AV → T → Prop
  | .c t, t' => t' = t ∨ (t = .lit (.slice none 0 0) ∧ ∃ sz, 0 < sz ∧ t' = .row 0 sz [])
  | .own i v, t' => ∃ e sz n ts, hp[i]? = some (.row v e sz n ts) ∧ t' = .row n sz ts
  | .agg cs, t' => ∃ ts, t' = .agg ts ∧ Rzs hp cs ts
  | .tup cs, t' => ∃ ts, t' = .tup ts ∧ Rzs hp cs ts
  | .fn f cap, t' => ∃ ts, t' = .fn f ts ∧ Rzs hp cap ts
  | .ptr i b off, t' => ∃ ty ts, hp[i]? = some (.box b ty (ts.map .c)) ∧ t' = .pin ts off
  | .eptr _ _ _, _ => False
  | .junk, _ => False
def Rzs (hp : List Blk) : List AV → List T → Prop
  | [], ts => ts = []
  | a :: as, ts => ∃ t r, ts = t :: r ∧ Rz hp a t ∧ Rzs hp as r
end
section
variable {hp : List Blk}
theorem rz_c {t : T} : Rz hp (.c t) t := by simp only [Rz]; exact .inl trivial
theorem rz_nil {sz : Nat} (h : Nat.ble 1 sz = true) : Rz hp (.c (.lit (.slice none 0 0))) (.row 0 sz []) := by simp only [Rz]; exact .inr ⟨trivial, sz, Nat.le_of_ble_eq_true h, rfl⟩
theorem rt_nil {M : Mm} {u : Value} {sz : Nat} (h0 : 0 < sz) (h : RT M (.lit (.slice none 0 0)) u) : RT M (.row 0 sz []) u := by
  simp only [RT] at h ⊢
  subst h
  exact ⟨none, 0, [], rfl, Nat.le_refl _, Nat.zero_le _, h0, by simp, fun h => absurd h (by omega), by simp only [RTs]⟩
theorem rz_own {i : Nat} {v : Value} {e : TypeId} {sz n : Nat} {ts : List T} (h : hp[i]? = some (.row v e sz n ts)) : Rz hp (.own i v) (.row n sz ts) := by simp only [Rz]; exact ⟨e, sz, n, ts, h, rfl⟩
theorem rz_agg {cs : List AV} {ts : List T} (h : Rzs hp cs ts) : Rz hp (.agg cs) (.agg ts) := by simp only [Rz]; exact ⟨ts, rfl, h⟩
theorem rz_tup {cs : List AV} {ts : List T} (h : Rzs hp cs ts) : Rz hp (.tup cs) (.tup ts) := by simp only [Rz]; exact ⟨ts, rfl, h⟩
theorem rz_fn {f : Fn} {cs : List AV} {ts : List T} (h : Rzs hp cs ts) : Rz hp (.fn f cs) (.fn f ts) := by simp only [Rz]; exact ⟨ts, rfl, h⟩
theorem rz_ptr {i b off : Nat} {ty : TypeId} {ts : List T} (h : hp[i]? = some (.box b ty (ts.map .c))) : Rz hp (.ptr i b off) (.pin ts off) := by simp only [Rz]; exact ⟨ty, ts, h, rfl⟩
theorem rzs_nil : Rzs hp [] [] := by simp only [Rzs]
theorem rzs_cons {a : AV} {as : List AV} {t : T} {ts : List T} (h : Rz hp a t) (h' : Rzs hp as ts) : Rzs hp (a :: as) (t :: ts) := by simp only [Rzs]; exact ⟨t, ts, rfl, h, h'⟩
end
theorem heap_row {M : Mm} {hp : List Blk} {w : World} (h : HeapOk F M hp w) {B : Nat} (hB : ∀ (i : Nat) x b, hp[i]? = some x → x.blk = some b → B ≤ b) {i : Nat} {v : Value} {e : TypeId} {sz n : Nat} {ts : List T} (hi : hp[i]? = some (.row v e sz n ts)) :
    RT (frz M B w) (.row n sz ts) v := by
  obtain ⟨xs, ho, hx, h1, hsz⟩ := h.at_ i _ hi
  have hs := own_shape ho
  obtain ⟨A, c, rfl, hnc, hcm⟩ := hs
  simp only [RT]
  refine ⟨A, c, xs, rfl, hnc, Nat.le_trans hnc hcm, hsz, ho.1, fun hn => ?_, RTs.mono (frz_sub _ _ _) _ _ hx⟩
  rcases ho.2 with ⟨_, h0⟩ | ⟨g, cap, cur, hv, _, hg, _⟩
  · omega
  · have hA : A = some ⟨g, 0, none⟩ := by injection hv
    subst hA
    refine ⟨_, rfl, fun j x hj => frz_new ((h.out i _ g hi rfl).2 _ (by rw [add_block])) (by rw [add_block]; exact hB i _ g hi rfl) (ho.cells (g := g) rfl j x hj) (h1 x (List.mem_of_getElem? hj))⟩
mutual
theorem rz_sound {M : Mm} {hp : List Blk} {w : World} (h : HeapOk F M hp w) {B : Nat} (hB : ∀ (i : Nat) x b, hp[i]? = some x → x.blk = some b → B ≤ b) : ∀ (av : AV) (t : T) (u : Value), Rz hp av t → RA M av u → RT (frz M B w) t u
  | .c t, t', u, hz, hr => by
    simp only [Rz] at hz
    simp only [RA] at hr
    rcases hz with rfl | ⟨rfl, sz, h0, rfl⟩
    · exact RT.mono (frz_sub _ _ _) _ _ hr
    · exact rt_nil h0 (RT.mono (frz_sub _ _ _) _ _ hr)
  | .own i v, t', u, hz, hr => by
    simp only [Rz] at hz
    obtain ⟨e, sz, n, ts, h1, rfl⟩ := hz
    simp only [RA] at hr
    rw [hr.1]
    exact heap_row h hB h1
  | .agg cs, t', u, hz, hr => by
    simp only [Rz] at hz
    obtain ⟨ts, rfl, h1⟩ := hz
    simp only [RA] at hr
    obtain ⟨xs, rfl, h2⟩ := hr
    simp only [RT]
    exact ⟨xs, rfl, rzs_sound h hB cs ts xs h1 h2⟩
  | .tup cs, t', u, hz, hr => by
    simp only [Rz] at hz
    obtain ⟨ts, rfl, h1⟩ := hz
    simp only [RA] at hr
    obtain ⟨xs, rfl, h2⟩ := hr
    simp only [RT]
    exact ⟨xs, rfl, rzs_sound h hB cs ts xs h1 h2⟩
  | .fn f cap, t', u, hz, hr => by
    simp only [Rz] at hz
    obtain ⟨ts, rfl, h1⟩ := hz
    simp only [RA] at hr
    obtain ⟨xs, rfl, h2⟩ := hr
    simp only [RT]
    exact ⟨xs, rfl, rzs_sound h hB cap ts xs h1 h2⟩
  | .ptr i b off, t', u, hz, hr => by
    simp only [Rz] at hz
    obtain ⟨ty, ts, h1, rfl⟩ := hz
    simp only [RA] at hr
    subst hr
    obtain ⟨xs, hh, hx, hone⟩ := h.at_ i _ h1
    simp only [RT]
    refine ⟨⟨b, 0, none⟩, xs, by unfold Addr.add; split <;> simp_all, fun j x hj => ?_, RTs.mono (frz_sub _ _ _) _ _ hx.toT⟩
    have hadd : (⟨b, 0, none⟩ : Addr).add j = ⟨b, j, none⟩ := by unfold Addr.add; split <;> simp_all
    rw [hadd]
    refine frz_new ((h.out i _ b h1 rfl).2 _ rfl) (hB i _ b h1 rfl) ?_ (hone x (List.mem_of_getElem? hj))
    rw [cell_of_row _ b j _ _ _ hh]
    simpa using hj
  | .eptr _ _ _, _, _, hz, _ => by simp only [Rz] at hz
  | .junk, _, _, hz, _ => by simp only [Rz] at hz
theorem rzs_sound {M : Mm} {hp : List Blk} {w : World} (h : HeapOk F M hp w) {B : Nat} (hB : ∀ (i : Nat) x b, hp[i]? = some x → x.blk = some b → B ≤ b) : ∀ (as : List AV) (ts : List T) (us : List Value), Rzs hp as ts → RAs M as us → RTs (frz M B w) ts us
  | [], ts, us, hz, hr => by
    simp only [Rzs] at hz
    simp only [RAs] at hr
    subst hz; subst hr
    simp only [RTs]
  | a :: as, ts, us, hz, hr => by
    simp only [Rzs] at hz
    obtain ⟨t, r, rfl, h1, h2⟩ := hz
    simp only [RAs] at hr
    obtain ⟨x, xs, rfl, h3, h4⟩ := hr
    simp only [RTs]
    exact ⟨x, xs, rfl, rz_sound h hB a t x h1 h3, rzs_sound h hB as r xs h2 h4⟩
end
end

attribute [irreducible] Rz Rzs
end Go.Proofs.Ythgackidonocpaa
