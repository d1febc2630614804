/-
  Texts of this proof, part 10: Tsv Tsd Tsw Tsf.
-/
import Derived.Test.YthgackidonocpaaGreatQStoreLast9
import Derived.MapKept
namespace Go.Proofs.YthgackidonocpaaGreat
open Go.RowKit
structure Inp where
  kind : Int
  val : V
def Inp.ts (x : Inp) : List T := .lit (.int .i64 x.kind) :: x.val.ts
theorem Inp.ts_len (x : Inp) : x.ts.length = 5 := by simp [Inp.ts, V.ts_len]
def Inp.same (x y : Inp) : Bool := decide (x.kind = y.kind) && x.val.same y.val
def Inp.t (x : Inp) : T := .agg x.ts
structure Sav where
  actor : ByteArray
  state : List V
  inputs : List Inp
def inpRow (l : List Inp) : T := .row l.length 5 (l.flatMap Inp.ts)
def Sav.t (s : Sav) : T := .agg [.lit (.string s.actor), V.row s.state, inpRow s.inputs]
def Sav.same (s s' : Sav) : Bool := decide (s.actor = s'.actor) && eqBy V.same s.state s'.state && eqBy Inp.same s.inputs s'.inputs
theorem Sav.same_refl (s : Sav) : s.same s = true := by
  simp [Sav.same, eqBy_refl (fun a (_ : a ∈ s.state) => V.same_refl a), eqBy_refl (p := Inp.same) (l := s.inputs) (fun a _ => by simp [Inp.same, V.same_refl])]
set_option maxRecDepth 100000 in
set_option maxHeartbeats 1000000 in
theorem savedSmall_af (s : Sav) (h1 : ∀ v ∈ s.state, v.size ≤ 1048576) (h2 : ∀ x ∈ s.inputs, x.val.size ≤ 1048576) (hn : s.state.length ≤ 1048576) : AF Tryz.prog 51 [s.t] Tell := by
  have hvs := valuesSmall_af s.state h1 hn
  obtain ⟨ac, st, l⟩ := s
  dsimp only at *
  refine af_enter tok Tryz.func51 Tryz.ntmps51 Tryz.results51 rfl (by kernel_rfl) rfl rfl fun F hX => ?_
  repeat (first | refine gG ?_ | refine zN1 (fun hlen => ?_) | refine zN2 (fun hlen => ?_) | refine zAl (fun _ => ?_) | refine zBx (fun _ => ?_))
  rename_i b0
  refine x_loop [2, 4, 8, 9, 10, 11, 12, 13, 14, 15, 16] (fun k : Nat => [(8, .c (.lit (.int .i64 k)))]) (fun _ => [.box b0 49 [.c (.lit (.string ac)), .c (V.row st), .c (inpRow l)]]) (fun k => k ≤ l.length) (fun k => l.length - k) 0 (Nat.zero_le _) ⟨rfl, trivial⟩ rfl fun k hk => ?_
  repeat (first | refine gG ?_ | refine zN1 (fun hlen => ?_) | refine zN2 (fun hlen => ?_) | refine zAl (fun _ => ?_) | refine zBx (fun _ => ?_))
  refine x_cond rfl (fun h => ?_) (fun h => ?_)
  · have hk' : k < l.length := by simpa using h
    obtain ⟨a, ha⟩ := nth hk'
    have hs := valueSmall_af a.val (h2 a (List.mem_of_getElem? ha))
    repeat (first | refine gG ?_ | refine zN1 (fun hlen => ?_) | refine zN2 (fun hlen => ?_) | refine zAl (fun _ => ?_) | refine zBx (fun _ => ?_))
    refine zIx (k) (hk') ?_
    repeat (first | refine gG ?_ | refine zN1 (fun hlen => ?_) | refine zN2 (fun hlen => ?_) | refine zAl (fun _ => ?_) | refine zBx (fun _ => ?_))
    refine zEl (flat_at Inp.ts 5 Inp.ts_len ha) (Inp.ts_len a) ?_
    obtain ⟨kd, ⟨ka, na, ta, la⟩⟩ := a
    repeat (first | refine gG ?_ | refine zN1 (fun hlen => ?_) | refine zN2 (fun hlen => ?_) | refine zAl (fun _ => ?_) | refine zBx (fun _ => ?_))
    refine zCall (hs) ?_
    rintro _ ⟨b, rfl⟩
    repeat (first | refine gG ?_ | refine zN1 (fun hlen => ?_) | refine zN2 (fun hlen => ?_) | refine zAl (fun _ => ?_) | refine zBx (fun _ => ?_))
    refine x_cond rfl (fun h => ?_) (fun h => ?_)
    · repeat (first | refine gG ?_ | refine zN1 (fun hlen => ?_) | refine zN2 (fun hlen => ?_) | refine zAl (fun _ => ?_) | refine zBx (fun _ => ?_))
      first | refine zR ?_ | refine zQ ?_
      exact ⟨_, rfl⟩
    · repeat (first | refine gG ?_ | refine zN1 (fun hlen => ?_) | refine zN2 (fun hlen => ?_) | refine zAl (fun _ => ?_) | refine zBx (fun _ => ?_))
      exact ⟨k + 1, hk', by omega, x_wkd 1 ⟨rfl, trivial⟩ rfl (by repeat (first | exact ag_refl | refine ag_upd rfl ?_ | refine ag_at rfl rfl ?_))⟩
  · repeat (first | refine gG ?_ | refine zN1 (fun hlen => ?_) | refine zN2 (fun hlen => ?_) | refine zAl (fun _ => ?_) | refine zBx (fun _ => ?_))
    refine zCall (hvs) ?_
    rintro _ ⟨b, rfl⟩
    repeat (first | refine gG ?_ | refine zN1 (fun hlen => ?_) | refine zN2 (fun hlen => ?_) | refine zAl (fun _ => ?_) | refine zBx (fun _ => ?_))
    first | refine zR ?_ | refine zQ ?_
    exact ⟨_, rfl⟩
set_option maxRecDepth 100000 in
set_option maxHeartbeats 1000000 in
theorem sameInp_af (x y : Inp) : AF Tryz.prog 75 [x.t, y.t] (· = .lit (.bool (x.same y))) := by
  have hc := sameValue_af x.val y.val
  obtain ⟨k, ⟨ka, na, ta, la⟩⟩ := x
  obtain ⟨k', ⟨kb, nb, tb, lb⟩⟩ := y
  dsimp only at hc
  refine af_enter tok Tryz.func75 Tryz.ntmps75 Tryz.results75 rfl (by kernel_rfl) rfl rfl fun F hX => ?_
  cases d1 : decide (k = k')
  · repeat (first | refine gG ?_ | refine zBx (fun _ => ?_))
    first | refine zR ?_ | refine zQ ?_
    simp [Inp.same, d1, outT]
  · repeat (first | refine gG ?_ | refine zBx (fun _ => ?_))
    refine zCall (hc) ?_
    rintro _ rfl
    repeat (first | refine gG ?_ | refine zBx (fun _ => ?_))
    first | refine zR ?_ | refine zQ ?_
    simp [Inp.same, d1, outT]
set_option maxRecDepth 100000 in
set_option maxHeartbeats 1000000 in
theorem eqInps_af (p : Inp → Inp → Bool) (f : FuncId) (l r : List Inp) (hf : ∀ a ∈ l, ∀ b ∈ r, AF Tryz.prog f [a.t, b.t] (· = .lit (.bool (p a b)))) :
    AF Tryz.prog 74 [inpRow l, inpRow r, .fn (.func f) []] (· = .lit (.bool (eqBy p l r))) := by
  refine af_enter tok Tryz.func74 Tryz.ntmps74 Tryz.results74 rfl (by kernel_rfl) rfl rfl fun F hX => ?_
  repeat (first | refine gG ?_ | refine zN1 (fun hlen => ?_) | refine zN2 (fun hlen => ?_) | refine zAl (fun _ => ?_))
  refine x_cond rfl (fun h => ?_) (fun h => ?_)
  · repeat (first | refine gG ?_ | refine zN1 (fun hlen => ?_) | refine zN2 (fun hlen => ?_) | refine zAl (fun _ => ?_))
    first | refine zR ?_ | refine zQ ?_
    have : l.length ≠ r.length := by have := h; simp at this; omega
    rw [eqBy_len this]
    rfl
  · have hlr : l.length = r.length := by have := h; simp at this; omega
    repeat (first | refine gG ?_ | refine zN1 (fun hlen => ?_) | refine zN2 (fun hlen => ?_) | refine zAl (fun _ => ?_))
    refine x_loop [6, 7, 8, 9, 17, 18, 19, 20, 21, 22, 23, 24, 25, 26, 27, 28, 29, 30, 31] (fun k : Nat => [(17, .c (.lit (.int .i64 k)))]) (fun _ => []) (fun k => k ≤ l.length ∧ eqBy p l r = eqBy p (l.drop k) (r.drop k)) (fun k => l.length - k) 0 ⟨Nat.zero_le _, rfl⟩ ⟨rfl, trivial⟩ rfl fun k hk => ?_
    repeat (first | refine gG ?_ | refine zN1 (fun hlen => ?_) | refine zN2 (fun hlen => ?_) | refine zAl (fun _ => ?_))
    refine x_cond rfl (fun h => ?_) (fun h => ?_)
    · have hk' : k < l.length := by simpa using h
      obtain ⟨a, ha⟩ := nth hk'
      obtain ⟨b, hb⟩ := nth (hlr ▸ hk' : k < r.length)
      have hp := hf a (List.mem_of_getElem? ha) b (List.mem_of_getElem? hb)
      have hstep : eqBy p (l.drop k) (r.drop k) = (p a b && eqBy p (l.drop (k + 1)) (r.drop (k + 1))) := eqBy_step ha hb
      repeat (first | refine gG ?_ | refine zN1 (fun hlen => ?_) | refine zN2 (fun hlen => ?_) | refine zAl (fun _ => ?_))
      refine zIx (k) (hk') ?_
      repeat (first | refine gG ?_ | refine zN1 (fun hlen => ?_) | refine zN2 (fun hlen => ?_) | refine zAl (fun _ => ?_))
      refine zEl (flat_at Inp.ts 5 Inp.ts_len ha) (Inp.ts_len a) ?_
      generalize hpq : p a b = pq at *
      obtain ⟨kd, ⟨ka, na, ta, la⟩⟩ := a
      obtain ⟨kd', ⟨kb, nb, tb, lb⟩⟩ := b
      repeat (first | refine gG ?_ | refine zN1 (fun hlen => ?_) | refine zN2 (fun hlen => ?_) | refine zAl (fun _ => ?_))
      refine zIx (k) (hlr ▸ hk') ?_
      repeat (first | refine gG ?_ | refine zN1 (fun hlen => ?_) | refine zN2 (fun hlen => ?_) | refine zAl (fun _ => ?_))
      refine zEl (flat_at Inp.ts 5 Inp.ts_len hb) (Inp.ts_len _) ?_
      repeat (first | refine gG ?_ | refine zN1 (fun hlen => ?_) | refine zN2 (fun hlen => ?_) | refine zAl (fun _ => ?_))
      refine zCallc (hp) ?_
      rintro _ rfl
      repeat (first | refine gG ?_ | refine zN1 (fun hlen => ?_) | refine zN2 (fun hlen => ?_) | refine zAl (fun _ => ?_))
      refine x_cond rfl (fun h => ?_) (fun h => ?_)
      · repeat (first | refine gG ?_ | refine zN1 (fun hlen => ?_) | refine zN2 (fun hlen => ?_) | refine zAl (fun _ => ?_))
        first | refine zR ?_ | refine zQ ?_
        have hq : pq = false := by simpa using h
        rw [hk.2, hstep, hq]
        rfl
      · repeat (first | refine gG ?_ | refine zN1 (fun hlen => ?_) | refine zN2 (fun hlen => ?_) | refine zAl (fun _ => ?_))
        have hq : pq = true := by simpa using h
        exact ⟨k + 1, ⟨hk', by rw [hk.2, hstep, hq, Bool.true_and]⟩, by omega, x_wkd 0 ⟨rfl, trivial⟩ rfl (by repeat (first | exact ag_refl | refine ag_upd rfl ?_ | refine ag_at rfl rfl ?_))⟩
    · have hk' : k = l.length := by have : ¬ k < l.length := by simpa using h
                                    omega
      repeat (first | refine gG ?_ | refine zN1 (fun hlen => ?_) | refine zN2 (fun hlen => ?_) | refine zAl (fun _ => ?_))
      first | refine zR ?_ | refine zQ ?_
      rw [hk.2, hk', List.drop_length, hlr, List.drop_length]
      rfl
set_option maxRecDepth 100000 in
set_option maxHeartbeats 1000000 in
theorem sameSaved_af (s s' : Sav) : AF Tryz.prog 48 [s.t, s'.t] (· = .lit (.bool (s.same s'))) := by
  have h1 := eqVals_af V.same 50 s.state s'.state (fun a _ b _ => sameValue_af a b)
  have h2 := eqInps_af Inp.same 75 s.inputs s'.inputs (fun a _ b _ => sameInp_af a b)
  obtain ⟨ac, st, l⟩ := s
  obtain ⟨ac', st', l'⟩ := s'
  dsimp only at h1 h2
  refine af_enter tok Tryz.func48 Tryz.ntmps48 Tryz.results48 rfl (by kernel_rfl) rfl rfl fun F hX => ?_
  cases d1 : decide (ac = ac')
  · repeat (first | refine gG ?_ | refine zBx (fun _ => ?_))
    first | refine zR ?_ | refine zQ ?_
    simp [Sav.same, d1, outT]
  · repeat (first | refine gG ?_ | refine zBx (fun _ => ?_))
    refine zCall (h1) ?_
    rintro _ rfl
    cases d2 : eqBy V.same st st'
    · repeat (first | refine gG ?_ | refine zBx (fun _ => ?_))
      first | refine zR ?_ | refine zQ ?_
      simp [Sav.same, d2, outT]
    · repeat (first | refine gG ?_ | refine zBx (fun _ => ?_))
      refine zCall (h2) ?_
      rintro _ rfl
      repeat (first | refine gG ?_ | refine zBx (fun _ => ?_))
      first | refine zR ?_ | refine zQ ?_
      simp [Sav.same, d1, d2, outT]
end Go.Proofs.YthgackidonocpaaGreat
namespace Go.Proofs.YthgackidonocpaaGreat
open Go.RowKit
/-- the first that is not nought -/
def errs : List Int → Int
  | [] => 0
  | e :: r => if e = 0 then errs r else e
theorem errs_all {α : Type} (f : α → Int) : ∀ {l : List α}, (∀ x ∈ l, f x = 0) → errs (l.map f) = 0
  | [], _ => rfl
  | a :: l, h => by rw [List.map_cons, errs, if_pos (h a (by simp)), errs_all f fun x hx => h x (List.mem_cons_of_mem _ hx)]
theorem errs_at {α : Type} (f : α → Int) : ∀ {l : List α} {k : Nat} {a : α}, (∀ x ∈ l.take k, f x = 0) → l[k]? = some a → f a ≠ 0 → errs (l.map f) = f a
  | [], _, _, _, h, _ => by simp at h
  | b :: l, 0, a, _, h, h0 => by
    obtain rfl : b = a := by simpa using h
    rw [List.map_cons, errs, if_neg h0]
  | b :: l, k + 1, a, h, ha, h0 => by
    rw [List.map_cons, errs, if_pos (h b (by simp))]
    exact errs_at f (k := k) (fun x hx => h x (by simp [hx])) (by simpa using ha) h0
theorem errs_zero {α : Type} (f : α → Int) : ∀ {l : List α}, errs (l.map f) = 0 → ∀ x ∈ l, f x = 0
  | [], _, x, hx => by simp at hx
  | a :: l, h, x, hx => by
    rw [List.map_cons, errs] at h
    split at h
    · rename_i h0
      rcases List.mem_cons.1 hx with rfl | hx
      · exact h0
      · exact errs_zero f h x hx
    · rename_i h0; exact absurd h h0
theorem take_snoc {α : Type} {p : α → Prop} {l : List α} {k : Nat} {a : α} (ha : l[k]? = some a) (h : ∀ x ∈ l.take k, p x) (h0 : p a) : ∀ x ∈ l.take (k + 1), p x := by
  obtain ⟨h1, rfl⟩ := List.getElem?_eq_some_iff.1 ha
  rw [List.take_succ_eq_append_getElem h1]
  intro x hx
  rcases List.mem_append.1 hx with hx | hx
  · exact h x hx
  · rw [List.mem_singleton.1 hx]; exact h0
def Inp.bytes (x : Inp) : List UInt8 := kb x.kind :: (if x.kind = 3 then [] else x.val.bytes)
def Inp.bad (x : Inp) : Bool := decide (x.kind < 1) || decide ((3 : Int) < x.kind) || (decide (x.kind = 3) && !x.val.isZ)
def Inp.check (x : Inp) : Int := if x.bad = true then 3 else if decide (x.kind = 3) = true then 0 else x.val.check
def Sav.bytes (s : Sav) : List UInt8 := uv s.actor.size ++ (s.actor.data.toList ++ (uv s.state.length ++ (s.state.flatMap V.bytes ++ (uv s.inputs.length ++ s.inputs.flatMap Inp.bytes))))
def Sav.check (s : Sav) : Int :=
  if (decide ((s.actor.size : Int) < 1) || decide ((16 : Int) < (s.actor.size : Int))) = true then 3
  else if (decide ((6 : Int) < (s.state.length : Int)) || decide ((2000 : Int) < (s.inputs.length : Int))) = true then 2
  else if errs (s.state.map V.check) = 0 then errs (s.inputs.map Inp.check) else errs (s.state.map V.check)
/-- of what is right -/
structure Inp.Right (x : Inp) : Prop where
  kind : 1 ≤ x.kind ∧ x.kind ≤ 3
  val : x.kind ≠ 3 → x.val.check = 0
  zero : x.kind = 3 → x.val = V.zero
theorem Inp.right {x : Inp} (h : x.check = 0) : x.Right := by
  unfold Inp.check at h
  split at h
  · omega
  · rename_i h1
    simp only [Inp.bad, Bool.or_eq_true, Bool.and_eq_true, decide_eq_true_eq, not_or, not_and, Bool.not_eq_true', Bool.not_eq_false] at h1
    obtain ⟨⟨a1, a2⟩, a3⟩ := h1
    refine ⟨by omega, fun hk => ?_, fun hk => isZ_zero (a3 hk)⟩
    rw [if_neg (by simpa using hk)] at h
    exact h
structure Sav.Right (s : Sav) : Prop where
  actor : 1 ≤ s.actor.size ∧ s.actor.size ≤ 16
  states : s.state.length ≤ 6
  inps : s.inputs.length ≤ 2000
  state : ∀ v ∈ s.state, v.check = 0
  inp : ∀ x ∈ s.inputs, x.check = 0
theorem Sav.right {s : Sav} (h : s.check = 0) : s.Right := by
  unfold Sav.check at h
  split at h
  · omega
  · rename_i h1
    split at h
    · omega
    · rename_i h2
      simp only [Bool.or_eq_true, decide_eq_true_eq, not_or] at h1 h2
      split at h
      · rename_i h3
        exact ⟨by omega, by omega, by omega, errs_zero V.check h3, errs_zero Inp.check h⟩
      · rename_i h3; exact absurd h h3
def rInp (s : RS) : Inp × RS := if (rByte s).1 = 3 then (⟨(rByte s).1, V.zero⟩, (rByte s).2) else (⟨(rByte s).1, (rVal 40 (rByte s).2).1⟩, (rVal 40 (rByte s).2).2)
def rSav (s : RS) : Sav × RS := (⟨bs (rText s).1, (rSome (rVal 40) (rText s).2).1, (rSome rInp (rSome (rVal 40) (rText s).2).2).1⟩, (rSome rInp (rSome (rVal 40) (rText s).2).2).2)
def Inp.fine (x : Inp) : Prop := (0 ≤ x.kind ∧ x.kind < 256) ∧ x.val.ok ∧ (x.kind = 3 → x.val = V.zero)
theorem rInp_ok : Reads rInp Inp.bytes Inp.fine := by
  intro s x s' h hb
  unfold rInp at h
  generalize e1 : rByte s = p1 at h
  obtain ⟨x1, s1⟩ := p1
  dsimp only at h
  split at h
  · rename_i hk
    simp only [Prod.mk.injEq] at h
    obtain ⟨rfl, rfl⟩ := h
    obtain ⟨a, g9, g9'⟩ := rByte_ok e1 hb
    have ha := a.toNat_lt
    refine ⟨?_, ⟨by simp only; omega, by simp only; omega⟩, zero_ok.1, fun _ => rfl⟩
    rw [g9']
    simp only [Inp.bytes, g9, kb_nat]
    rw [if_pos (by omega)]
    simp
  · rename_i hk
    have hv := rVal_ok' 40 s1
    generalize rVal 40 s1 = p6 at *
    obtain ⟨x6, s6⟩ := p6
    simp only [Prod.mk.injEq] at h
    obtain ⟨rfl, rfl⟩ := h
    dsimp only at hv
    obtain ⟨g1, g2, g3⟩ := hv hb
    obtain ⟨a, g9, g9'⟩ := rByte_ok e1 (by rw [g1])
    have ha := a.toNat_lt
    refine ⟨?_, ⟨by simp only; omega, by simp only; omega⟩, g2, fun h => absurd (by simp only at h; omega) hk⟩
    rw [g9', g1]
    simp only [Inp.bytes, g9, kb_nat]
    rw [if_neg (by omega)]
    simp
theorem rInp_to {x : Inp} (h : x.Right) (hok : x.val.ok) (hlen : x.val.bytes.length ≤ 9223372036854775807) (r : List UInt8) : rInp ⟨x.bytes ++ r, false, 0⟩ = (x, ⟨r, false, 0⟩) := by
  obtain ⟨k, v⟩ := x
  have h1 := h.kind
  have hk := kb_toNat (k := k) ⟨by simp only at h1; omega, by simp only at h1; omega⟩
  have hb : rByte ⟨(Inp.mk k v).bytes ++ r, false, 0⟩ = ((kb k).toNat, ⟨(if k = 3 then [] else v.bytes) ++ r, false, 0⟩) := by
    simp only [Inp.bytes, rByte, List.cons_append]
  unfold rInp
  simp only [hb, hk]
  by_cases h3 : k = 3
  · have hz : v = V.zero := h.zero h3
    rw [if_pos (by omega), if_pos h3, hz]
    rfl
  · rw [if_neg (by omega), if_neg h3]
    obtain ⟨c1, c2, c3, c4⟩ := check_ok (h.val h3 : v.check = 0)
    rw [rVal_to v 40 0 r hok c4 hlen c2 (by omega)]
def Sav.fine (s : Sav) : Prop := (∀ v ∈ s.state, v.ok) ∧ ∀ x ∈ s.inputs, x.fine
theorem rSav_ok : Reads rSav Sav.bytes Sav.fine := by
  intro s x s' h hb
  unfold rSav at h
  generalize e1 : rText s = p1 at h
  obtain ⟨x1, s1⟩ := p1
  dsimp only at h
  generalize e2 : rSome (rVal 40) s1 = p2 at h
  obtain ⟨x2, s2⟩ := p2
  dsimp only at h
  generalize e3 : rSome rInp s2 = p3 at h
  obtain ⟨x3, s3⟩ := p3
  simp only [Prod.mk.injEq] at h
  obtain ⟨rfl, rfl⟩ := h
  obtain ⟨g1, g2, g3⟩ := rSome_ok rInp_ok e3 hb
  obtain ⟨g4, g5, g6⟩ := rSome_ok (rVal_ok 40) e2 (by rw [g1])
  obtain ⟨g7, g8⟩ := rText_ok e1 (by rw [g4])
  refine ⟨?_, fun v hv => (g5 v hv).1, g2⟩
  rw [g7, g4, g1]
  simp only [Sav.bytes, bs_size', List.append_assoc]
  simp [bs]
theorem Inp.bytes_pos (x : Inp) : 1 ≤ x.bytes.length := by simp [Inp.bytes]
theorem rSav_to {s : Sav} (h : s.Right) (hs : ∀ v ∈ s.state, v.ok ∧ v.bytes.length ≤ 9223372036854775807) (hi : ∀ x ∈ s.inputs, x.val.ok ∧ x.val.bytes.length ≤ 9223372036854775807) (r : List UInt8) : rSav ⟨s.bytes ++ r, false, 0⟩ = (s, ⟨r, false, 0⟩) := by
  obtain ⟨ac, st, ip⟩ := s
  obtain ⟨a1, a2, a3, a4, a5⟩ := h
  dsimp only at hs hi a1 a2 a3 a4 a5
  have h1 : rText ⟨(Sav.mk ac st ip).bytes ++ r, false, 0⟩ = (ac.data.toList, ⟨uv st.length ++ (st.flatMap V.bytes ++ (uv ip.length ++ (ip.flatMap Inp.bytes ++ r))), false, 0⟩) := by
    have := rText_to ac.data.toList (uv st.length ++ (st.flatMap V.bytes ++ (uv ip.length ++ (ip.flatMap Inp.bytes ++ r)))) 0 (by rw [sz_len]; omega)
    rw [sz_len] at this
    simpa only [Sav.bytes, List.append_assoc] using this
  have h2 : rSome (rVal 40) ⟨uv st.length ++ (st.flatMap V.bytes ++ (uv ip.length ++ (ip.flatMap Inp.bytes ++ r))), false, 0⟩ = (st, ⟨uv ip.length ++ (ip.flatMap Inp.bytes ++ r), false, 0⟩) :=
    rSome_to st _ 0 (by omega) (fun x _ => V.bytes_pos x) fun x hx r => by
      obtain ⟨c1, c2, c3, c4⟩ := check_ok (a4 x hx)
      exact rVal_to x 40 0 r (hs x hx).1 c4 (hs x hx).2 c2 (by omega)
  have h3 : rSome rInp ⟨uv ip.length ++ (ip.flatMap Inp.bytes ++ r), false, 0⟩ = (ip, ⟨r, false, 0⟩) :=
    rSome_to ip r 0 (by omega) (fun x _ => Inp.bytes_pos x) fun x hx r => rInp_to (Inp.right (a5 x hx)) (hi x hx).1 (hi x hx).2 r
  unfold rSav
  simp only [h1, h2, h3, bs_self]
def tRep {α : Type} (g : TS → α × TS) : Nat → TS → List α × TS
  | 0, s => ([], s)
  | n + 1, s => if s.ok then ((g s).1 :: (tRep g n (g s).2).1, (tRep g n (g s).2).2) else ([], s)
theorem tRep_to {α : Type} {g : TS → α × TS} {enc : α → List UInt8} : ∀ (l : List α) (r : List UInt8), (∀ x ∈ l, ∀ r, g ⟨enc x ++ r, true⟩ = (x, ⟨r, true⟩)) → tRep g l.length ⟨l.flatMap enc ++ r, true⟩ = (l, ⟨r, true⟩)
  | [], r, _ => rfl
  | a :: l, r, h => by
    rw [List.length_cons, tRep, if_pos rfl, List.flatMap_cons, List.append_assoc, h a (by simp)]
    dsimp only
    rw [tRep_to l r fun x hx => h x (List.mem_cons_of_mem _ hx)]
def tInp (s : TS) : Inp × TS := if (tOne s).1 = 3 then (⟨(tOne s).1, V.zero⟩, (tOne s).2) else (⟨(tOne s).1, (tWhole (tOne s).2).1⟩, (tWhole (tOne s).2).2)
def tVals (s : TS) : List V × TS := tRep tWhole (tNat s).1 (tNat s).2
def tInps (s : TS) : List Inp × TS := tRep tInp (tNat s).1 (tNat s).2
def tSav (s : TS) : Sav × TS := (⟨bs (tText s).1, (tVals (tText s).2).1, (tInps (tVals (tText s).2).2).1⟩, (tInps (tVals (tText s).2).2).2)
theorem tInp_to {x : Inp} (h : x.Right) (hok : x.val.ok) (r : List UInt8) : tInp ⟨x.bytes ++ r, true⟩ = (x, ⟨r, true⟩) := by
  obtain ⟨k, v⟩ := x
  have h1 := h.kind
  have hk := kb_toNat (k := k) ⟨by simp only at h1; omega, by simp only at h1; omega⟩
  have hb : tOne ⟨(Inp.mk k v).bytes ++ r, true⟩ = ((kb k).toNat, ⟨(if k = 3 then [] else v.bytes) ++ r, true⟩) := by
    simp only [Inp.bytes, tOne, List.cons_append]
  unfold tInp
  simp only [hb, hk]
  by_cases h3 : k = 3
  · have hz : v = V.zero := h.zero h3
    rw [if_pos (by omega), if_pos h3, hz]
    rfl
  · rw [if_neg (by omega), if_neg h3, tWhole_to v r hok (h.val h3)]
theorem tSav_to {s : Sav} (h : s.Right) (hs : ∀ v ∈ s.state, v.ok) (hi : ∀ x ∈ s.inputs, x.val.ok) (r : List UInt8) : tSav ⟨s.bytes ++ r, true⟩ = (s, ⟨r, true⟩) := by
  obtain ⟨ac, st, ip⟩ := s
  obtain ⟨a1, a2, a3, a4, a5⟩ := h
  dsimp only at hs hi a1 a2 a3 a4 a5
  have h1 : tText ⟨(Sav.mk ac st ip).bytes ++ r, true⟩ = (ac.data.toList, ⟨uv st.length ++ (st.flatMap V.bytes ++ (uv ip.length ++ (ip.flatMap Inp.bytes ++ r))), true⟩) := by
    have := tText_to ac.data.toList (uv st.length ++ (st.flatMap V.bytes ++ (uv ip.length ++ (ip.flatMap Inp.bytes ++ r)))) (by rw [sz_len]; omega)
    rw [sz_len] at this
    simpa only [Sav.bytes, List.append_assoc] using this
  have h2 : tVals ⟨uv st.length ++ (st.flatMap V.bytes ++ (uv ip.length ++ (ip.flatMap Inp.bytes ++ r))), true⟩ = (st, ⟨uv ip.length ++ (ip.flatMap Inp.bytes ++ r), true⟩) := by
    unfold tVals
    rw [tNat_to st.length _ (by omega)]
    exact tRep_to st _ fun x hx r => tWhole_to x r (hs x hx) (a4 x hx)
  have h3 : tInps ⟨uv ip.length ++ (ip.flatMap Inp.bytes ++ r), true⟩ = (ip, ⟨r, true⟩) := by
    unfold tInps
    rw [tNat_to ip.length _ (by omega)]
    exact tRep_to ip r fun x hx r => tInp_to (Inp.right (a5 x hx)) (hi x hx) r
  unfold tSav
  simp only [h1, h2, h3, bs_self]
def V.tiny (v : V) : Prop := v.ok ∧ v.size ≤ 1048576 ∧ v.bytes.length ≤ 34000000
structure Sav.Small (s : Sav) : Prop where
  state : ∀ v ∈ s.state, v.tiny
  inp : ∀ x ∈ s.inputs, x.val.tiny
  actor : s.actor.size ≤ 1000000000
/-- no more bytes than before; ok only if it was -/
def Dn (s s' : TS) : Prop := s'.l.length ≤ s.l.length ∧ (s'.ok = true → s.ok = true)
/-- ok only if it was, and bytes were taken -/
def Et (s s' : TS) : Prop := s'.l.length ≤ s.l.length ∧ (s'.ok = true → s.ok = true ∧ s'.l.length < s.l.length)
theorem Dn.refl (s : TS) : Dn s s := ⟨Nat.le_refl _, id⟩
theorem Et.dn {s s' : TS} (h : Et s s') : Dn s s' := ⟨h.1, fun o => (h.2 o).1⟩
theorem Dn.trans {s s' s'' : TS} (h : Dn s s') (h' : Dn s' s'') : Dn s s'' := ⟨Nat.le_trans h'.1 h.1, fun o => h.2 (h'.2 o)⟩
theorem Et.trans {s s' s'' : TS} (h : Et s s') (h' : Dn s' s'') : Et s s'' := ⟨Nat.le_trans h'.1 h.1, fun o => ⟨(h.2 (h'.2 o)).1, Nat.lt_of_le_of_lt h'.1 (h.2 (h'.2 o)).2⟩⟩
theorem et_fail {s s' : TS} (h : Dn s s') : Et s s'.fail := ⟨h.1, fun o => by cases o⟩
theorem tOne_et (s : TS) : Et s (tOne s).2 := by
  obtain ⟨l, o⟩ := s
  cases l with
  | nil => exact et_fail (Dn.refl _)
  | cons a r => exact ⟨by simp [tOne], fun h => ⟨h, by simp [tOne]⟩⟩
theorem tNatL_et : ∀ (k i n : Nat) (s : TS), Et s (tNatL k i n s).2
  | 0, i, n, s => et_fail (Dn.refl _)
  | k + 1, i, n, s => by
    rw [tNatL]
    split
    · exact tOne_et s
    · exact (tOne_et s).trans (tNatL_et k _ _ _).dn
theorem tNat_et (s : TS) : Et s (tNat s).2 := tNatL_et _ _ _ _
theorem tNumL_et : ∀ (k i n : Nat) (s : TS), Et s (tNumL k i n s).2
  | 0, i, n, s => et_fail (Dn.refl _)
  | k + 1, i, n, s => by
    rw [tNumL]
    split
    · exact tOne_et s
    · exact (tOne_et s).trans (tNumL_et k _ _ _).dn
theorem tNum_et (s : TS) : Et s (tNum s).2 := tNumL_et _ _ _ _
theorem tText_et (s : TS) : Et s (tText s).2 := by
  have h := tNat_et s
  unfold tText
  split
  · exact et_fail h.dn
  · refine h.trans ⟨?_, id⟩
    simp only [List.length_drop]
    omega
theorem tLoop_dn {α : Type} {g : TG α} (h : ∀ s m, Dn s (g s m).2.1) : ∀ (n : Nat) (s : TS) (m : Int), Dn s (tLoop g n s m).2.1
  | 0, s, m => Dn.refl _
  | n + 1, s, m => by
    rw [tLoop]
    split
    · exact (h s m).trans (tLoop_dn h n _ _)
    · exact Dn.refl _
theorem tVal_dn : ∀ (d : Nat) (s : TS) (m : Int), Dn s (tVal d s m).2.1 ∧ ((tVal d s m).2.1.ok = true → (tVal d s m).2.1.l.length < s.l.length)
  | 0, s, m => ⟨(et_fail (Dn.refl _)).dn, fun h => by cases h⟩
  | d + 1, s, m => by
    rw [tVal]
    split
    · exact ⟨(et_fail (Dn.refl _)).dn, fun h => by cases h⟩
    · split
      · rename_i h; exact ⟨Dn.refl _, fun h' => by simp only [h] at h'; cases h'⟩
      · have h := ((((tOne_et s).trans (tNum_et _).dn).trans (tText_et _).dn).trans (tNat_et _).dn).trans (tLoop_dn (fun s m => (tVal_dn d s m).1) (tNat (tText (tNum (tOne s).2).2).2).1 (tNat (tText (tNum (tOne s).2).2).2).2 (m - 1))
        exact ⟨h.dn, fun o => (h.2 o).2⟩
theorem tWhole_et (s : TS) : Et s (tWhole s).2 := ⟨(tVal_dn 40 s 400).1.1, fun o => ⟨(tVal_dn 40 s 400).1.2 o, (tVal_dn 40 s 400).2 o⟩⟩
theorem tInp_et (s : TS) : Et s (tInp s).2 := by
  unfold tInp
  split
  · exact tOne_et s
  · exact (tOne_et s).trans (tWhole_et _).dn
theorem tRep_dn {α : Type} {g : TS → α × TS} (h : ∀ s, Et s (g s).2) : ∀ (n : Nat) (s : TS), Dn s (tRep g n s).2 ∧ (tRep g n s).1.length ≤ s.l.length + 1
  | 0, s => ⟨Dn.refl _, by simp [tRep]⟩
  | n + 1, s => by
    rw [tRep]
    split
    · rename_i hs
      obtain ⟨h1, h2⟩ := tRep_dn h n (g s).2
      refine ⟨(h s).dn.trans h1, ?_⟩
      by_cases ho : (g s).2.ok = true
      · have := ((h s).2 ho).2
        simp only [List.length_cons]
        omega
      · have : tRep g n (g s).2 = ([], (g s).2) := by
          cases n with
          | zero => rfl
          | succ n => rw [tRep, if_neg ho]
        simp [this]
    · exact ⟨Dn.refl _, by simp⟩
theorem tRep_all {α : Type} {g : TS → α × TS} {p : α → Prop} (h : ∀ s, p (g s).1) : ∀ (n : Nat) (s : TS), ∀ x ∈ (tRep g n s).1, p x
  | 0, s, x, hx => by simp [tRep] at hx
  | n + 1, s, x, hx => by
    rw [tRep] at hx
    split at hx
    · rcases List.mem_cons.1 hx with rfl | hx
      · exact h s
      · exact tRep_all h n _ x hx
    · simp at hx
theorem zero_tiny : V.zero.tiny := by
  obtain ⟨h1, h2, h3⟩ := zero_fair
  have h4 := V.bytes_len V.zero h1 (by omega) (by omega)
  exact ⟨h1, by omega, by omega⟩
theorem tWhole_tiny (s : TS) : (tWhole s).1.tiny := by
  obtain ⟨h1, h2, h3⟩ := tWhole_fair s
  exact ⟨h1, by omega, by omega⟩
theorem tInp_tiny (s : TS) : (tInp s).1.val.tiny := by
  unfold tInp
  split
  · exact zero_tiny
  · exact tWhole_tiny _
theorem tSav_small (s : TS) (h : s.l.length ≤ 2097152) : (tSav s).1.Small ∧ (tSav s).1.state.length ≤ 2097153 ∧ (tSav s).1.inputs.length ≤ 2097153 := by
  have h1 := tText_len s
  have h2 := (tText_et s).1
  obtain ⟨h3, h4⟩ := tRep_dn tWhole_et (tNat (tText s).2).1 (tNat (tText s).2).2
  have h5 := (tNat_et (tText s).2).1
  obtain ⟨h6, h7⟩ := tRep_dn tInp_et (tNat (tVals (tText s).2).2).1 (tNat (tVals (tText s).2).2).2
  have h8 := (tNat_et (tVals (tText s).2).2).1
  have h9 := h3.1
  unfold tSav
  refine ⟨⟨fun v hv => tRep_all tWhole_tiny _ _ v hv, fun x hx => tRep_all (p := fun x : Inp => x.val.tiny) tInp_tiny _ _ x hx, by simp only [bs_size']; omega⟩, ?_, ?_⟩
  · show (tVals (tText s).2).1.length ≤ _
    unfold tVals
    omega
  · show (tInps (tVals (tText s).2).2).1.length ≤ _
    unfold tInps
    have : (tVals (tText s).2).2.l.length ≤ (tNat (tText s).2).2.l.length := h3.1
    omega
def Sav.out (s : Sav) : List UInt8 := if s.check = 0 then s.bytes else []
def Sav.zero : Sav := ⟨⟨#[]⟩, [], []⟩
end Go.Proofs.YthgackidonocpaaGreat
namespace Go.Proofs.YthgackidonocpaaGreat
open Go.RowKit
theorem Sav.check_3 {s : Sav} (h : (decide ((s.actor.size : Int) < 1) || decide ((16 : Int) < (s.actor.size : Int))) = true) : s.check = 3 := by unfold Sav.check; rw [if_pos h]
theorem Sav.check_2 {s : Sav} (h : (decide ((s.actor.size : Int) < 1) || decide ((16 : Int) < (s.actor.size : Int))) = false) (h2 : (decide ((6 : Int) < (s.state.length : Int)) || decide ((2000 : Int) < (s.inputs.length : Int))) = true) : s.check = 2 := by unfold Sav.check; rw [if_neg (by rw [h]; decide), if_pos h2]
theorem Sav.check_r {s : Sav} (h : (decide ((s.actor.size : Int) < 1) || decide ((16 : Int) < (s.actor.size : Int))) = false) (h2 : (decide ((6 : Int) < (s.state.length : Int)) || decide ((2000 : Int) < (s.inputs.length : Int))) = false) : s.check = if errs (s.state.map V.check) = 0 then errs (s.inputs.map Inp.check) else errs (s.state.map V.check) := by unfold Sav.check; rw [if_neg (by rw [h]; decide), if_neg (by rw [h2]; decide)]
theorem Inp.check_bad {x : Inp} (h : x.bad = true) : x.check = 3 := by unfold Inp.check; rw [if_pos h]
theorem Inp.check_3 {x : Inp} (h : x.bad = false) (h3 : x.kind = 3) : x.check = 0 := by unfold Inp.check; rw [if_neg (by rw [h]; decide), if_pos (decide_eq_true h3)]
theorem Inp.check_v {x : Inp} (h : x.bad = false) (h3 : ¬ x.kind = 3) : x.check = x.val.check := by unfold Inp.check; rw [if_neg (by rw [h]; decide), if_neg (by simpa using h3)]
set_option maxRecDepth 100000 in
set_option maxHeartbeats 4000000 in
theorem checkSaved_af (s : Sav) : AF Tryz.prog 88 [s.t] (· = .lit (.int .i64 s.check)) := by
  have k3 := @Sav.check_3 s
  have k2 := @Sav.check_2 s
  have kr := @Sav.check_r s
  obtain ⟨ac, st, l⟩ := s
  dsimp only at k3 k2 kr
  generalize hck : (Sav.mk ac st l).check = ck at *
  refine af_enter tok Tryz.func88 Tryz.ntmps88 Tryz.results88 rfl (by kernel_rfl) rfl rfl fun F hX => ?_
  cases d1 : decide ((ac.size : Int) < 1)
  rotate_left
  · repeat (first | refine gG ?_ | refine zN1 (fun hlen => ?_) | refine zN2 (fun hlen => ?_) | refine zAl (fun _ => ?_) | refine zBf ?_)
    first | refine zR ?_ | refine zQ ?_
    rw [k3 (by rw [d1]; rfl)]; rfl
  cases d2 : decide ((16 : Int) < (ac.size : Int))
  rotate_left
  · repeat (first | refine gG ?_ | refine zN1 (fun hlen => ?_) | refine zN2 (fun hlen => ?_) | refine zAl (fun _ => ?_) | refine zBf ?_)
    first | refine zR ?_ | refine zQ ?_
    rw [k3 (by rw [d1, d2]; rfl)]; rfl
  have j1 : (decide ((ac.size : Int) < 1) || decide ((16 : Int) < (ac.size : Int))) = false := by rw [d1, d2]; rfl
  cases d3 : decide ((6 : Int) < (st.length : Int))
  rotate_left
  · repeat (first | refine gG ?_ | refine zN1 (fun hlen => ?_) | refine zN2 (fun hlen => ?_) | refine zAl (fun _ => ?_) | refine zBf ?_)
    first | refine zR ?_ | refine zQ ?_
    rw [k2 j1 (by rw [d3]; rfl)]; rfl
  cases d4 : decide ((2000 : Int) < (l.length : Int))
  rotate_left
  · repeat (first | refine gG ?_ | refine zN1 (fun hlen => ?_) | refine zN2 (fun hlen => ?_) | refine zAl (fun _ => ?_) | refine zBf ?_)
    first | refine zR ?_ | refine zQ ?_
    rw [k2 j1 (by rw [d3, d4]; rfl)]; rfl
  have kr := kr j1 (by rw [d3, d4]; rfl)
  clear k3 k2 j1
  repeat (first | refine gG ?_ | refine zN1 (fun hlen => ?_) | refine zN2 (fun hlen => ?_) | refine zAl (fun _ => ?_) | refine zBf ?_)
  refine x_loop [2, 4, 5, 34, 35, 36, 37, 38, 39, 40, 41, 42, 43] (fun k : Nat => [(34, .c (.lit (.int .i64 k)))]) (fun _ => []) (fun k => k ≤ st.length ∧ ∀ x ∈ st.take k, V.check x = 0) (fun k => st.length - k) 0 ⟨Nat.zero_le _, by simp⟩ ⟨rfl, trivial⟩ rfl ?_
  rintro k ⟨hk, hz⟩
  repeat (first | refine gG ?_ | refine zN1 (fun hlen => ?_) | refine zN2 (fun hlen => ?_) | refine zAl (fun _ => ?_) | refine zBx (fun _ => ?_))
  refine x_cond rfl (fun h => ?_) (fun h => ?_)
  · have hk' : k < st.length := by simpa using h
    obtain ⟨a, ha⟩ := nth hk'
    have hs := check_af a
    have he := errs_at V.check hz ha
    have hsn := take_snoc (p := fun x => V.check x = 0) ha hz
    repeat (first | refine gG ?_ | refine zN1 (fun hlen => ?_) | refine zN2 (fun hlen => ?_) | refine zAl (fun _ => ?_) | refine zBx (fun _ => ?_))
    refine zIx (k) (hk') ?_
    repeat (first | refine gG ?_ | refine zN1 (fun hlen => ?_) | refine zN2 (fun hlen => ?_) | refine zAl (fun _ => ?_) | refine zBx (fun _ => ?_))
    refine zEl (V.at ha) (V.ts_len a) ?_
    generalize hca : a.check = ca at *
    obtain ⟨ka, na, ta, la⟩ := a
    repeat (first | refine gG ?_ | refine zN1 (fun hlen => ?_) | refine zN2 (fun hlen => ?_) | refine zAl (fun _ => ?_) | refine zBx (fun _ => ?_))
    refine zCall (hs) ?_
    rintro _ rfl
    cases c1 : decide (ca = 0)
    · have c0 : ¬ ca = 0 := of_decide_eq_false c1
      repeat (first | refine gG ?_ | refine zN1 (fun hlen => ?_) | refine zN2 (fun hlen => ?_) | refine zAl (fun _ => ?_) | refine zBx (fun _ => ?_))
      first | refine zR ?_ | refine zQ ?_
      rw [kr, he c0, if_neg c0]; rfl
    · have c0 : ca = 0 := of_decide_eq_true c1
      repeat (first | refine gG ?_ | refine zN1 (fun hlen => ?_) | refine zN2 (fun hlen => ?_) | refine zAl (fun _ => ?_) | refine zBx (fun _ => ?_))
      exact ⟨k + 1, ⟨hk', hsn c0⟩, by omega, x_wkd 0 ⟨rfl, trivial⟩ rfl (by repeat (first | exact ag_refl | refine ag_upd rfl ?_ | refine ag_at rfl rfl ?_))⟩
  · have hk' : k = st.length := by have : ¬ k < st.length := by simpa using h
                                   omega
    subst hk'
    rw [List.take_length] at hz
    rw [errs_all V.check hz, if_pos rfl] at kr
    repeat (first | refine gG ?_ | refine zN1 (fun hlen => ?_) | refine zN2 (fun hlen => ?_) | refine zAl (fun _ => ?_) | refine zBx (fun _ => ?_))
    refine x_loop [2, 7, 8, 47, 48, 49, 50, 51, 52, 53, 54, 55, 56, 57, 58, 59, 60, 61, 62, 63, 64, 65, 66, 67, 68, 69, 70, 71, 72, 73, 74, 75, 76, 77, 78, 79, 80, 81] (fun k : Nat => [(47, .c (.lit (.int .i64 k)))]) (fun _ => []) (fun k => k ≤ l.length ∧ ∀ x ∈ l.take k, Inp.check x = 0) (fun k => l.length - k) 0 ⟨Nat.zero_le _, by simp⟩ ⟨rfl, trivial⟩ rfl ?_
    rintro k ⟨hk, hz⟩
    repeat (first | refine gG ?_ | refine zN1 (fun hlen => ?_) | refine zN2 (fun hlen => ?_) | refine zAl (fun _ => ?_) | refine zBx (fun _ => ?_))
    refine x_cond rfl (fun h => ?_) (fun h => ?_)
    · have hk' : k < l.length := by simpa using h
      obtain ⟨a, ha⟩ := nth hk'
      have hs := check_af a.val
      have hz3 := isZero_af a.val
      have he := errs_at Inp.check hz ha
      have hsn := take_snoc (p := fun x => Inp.check x = 0) ha hz
      have kb := @Inp.check_bad a
      have k3 := @Inp.check_3 a
      have kv := @Inp.check_v a
      repeat (first | refine gG ?_ | refine zN1 (fun hlen => ?_) | refine zN2 (fun hlen => ?_) | refine zAl (fun _ => ?_) | refine zBx (fun _ => ?_))
      refine zIx (k) (hk') ?_
      repeat (first | refine gG ?_ | refine zN1 (fun hlen => ?_) | refine zN2 (fun hlen => ?_) | refine zAl (fun _ => ?_) | refine zBx (fun _ => ?_))
      refine zEl (flat_at Inp.ts 5 Inp.ts_len ha) (Inp.ts_len a) ?_
      obtain ⟨kd, v⟩ := a
      simp only [Inp.bad] at kb k3 kv
      dsimp only at hs hz3 kb k3 kv
      generalize (Inp.mk kd v).check = ca at *
      generalize v.check = cv at *
      generalize v.isZ = zv at *
      obtain ⟨ka, na, ta, la⟩ := v
      cases e1 : decide (kd < 1)
      rotate_left
      · have kb := kb (by rw [e1]; rfl)
        repeat (first | refine gG ?_ | refine zN1 (fun hlen => ?_) | refine zN2 (fun hlen => ?_) | refine zAl (fun _ => ?_) | refine zBx (fun _ => ?_))
        first | refine zR ?_ | refine zQ ?_
        rw [kr, he (by omega), kb]; rfl
      cases e2 : decide ((3 : Int) < kd)
      rotate_left
      · have kb := kb (by rw [e1, e2]; rfl)
        repeat (first | refine gG ?_ | refine zN1 (fun hlen => ?_) | refine zN2 (fun hlen => ?_) | refine zAl (fun _ => ?_) | refine zBx (fun _ => ?_))
        first | refine zR ?_ | refine zQ ?_
        rw [kr, he (by omega), kb]; rfl
      cases e3 : decide (kd = 3)
      · have kv := kv (by rw [e1, e2, e3]; rfl) (of_decide_eq_false e3)
        repeat (first | refine gG ?_ | refine zN1 (fun hlen => ?_) | refine zN2 (fun hlen => ?_) | refine zAl (fun _ => ?_) | refine zBx (fun _ => ?_))
        refine zCall (hs) ?_
        rintro _ rfl
        cases c1 : decide (cv = 0)
        · have c0 : ¬ cv = 0 := of_decide_eq_false c1
          repeat (first | refine gG ?_ | refine zN1 (fun hlen => ?_) | refine zN2 (fun hlen => ?_) | refine zAl (fun _ => ?_) | refine zBx (fun _ => ?_))
          first | refine zR ?_ | refine zQ ?_
          rw [kr, he (by omega), kv]; rfl
        · have c0 : cv = 0 := of_decide_eq_true c1
          repeat (first | refine gG ?_ | refine zN1 (fun hlen => ?_) | refine zN2 (fun hlen => ?_) | refine zAl (fun _ => ?_) | refine zBx (fun _ => ?_))
          exact ⟨k + 1, ⟨hk', hsn (by omega)⟩, by omega, x_wkd 0 ⟨rfl, trivial⟩ rfl (by repeat (first | exact ag_refl | refine ag_upd rfl ?_ | refine ag_at rfl rfl ?_))⟩
      · cases zv
        · have kb := kb (by rw [e1, e2, e3]; rfl)
          repeat (first | refine gG ?_ | refine zN1 (fun hlen => ?_) | refine zN2 (fun hlen => ?_) | refine zAl (fun _ => ?_) | refine zBx (fun _ => ?_))
          refine zCall (hz3) ?_
          rintro _ rfl
          repeat (first | refine gG ?_ | refine zN1 (fun hlen => ?_) | refine zN2 (fun hlen => ?_) | refine zAl (fun _ => ?_) | refine zBx (fun _ => ?_))
          first | refine zR ?_ | refine zQ ?_
          rw [kr, he (by omega), kb]; rfl
        · have k3 := k3 (by rw [e1, e2, e3]; rfl) (of_decide_eq_true e3)
          repeat (first | refine gG ?_ | refine zN1 (fun hlen => ?_) | refine zN2 (fun hlen => ?_) | refine zAl (fun _ => ?_) | refine zBx (fun _ => ?_))
          refine zCall (hz3) ?_
          rintro _ rfl
          repeat (first | refine gG ?_ | refine zN1 (fun hlen => ?_) | refine zN2 (fun hlen => ?_) | refine zAl (fun _ => ?_) | refine zBx (fun _ => ?_))
          exact ⟨k + 1, ⟨hk', hsn (by omega)⟩, by omega, x_wkd 0 ⟨rfl, trivial⟩ rfl (by repeat (first | exact ag_refl | refine ag_upd rfl ?_ | refine ag_at rfl rfl ?_))⟩
    · have hk' : k = l.length := by have : ¬ k < l.length := by simpa using h
                                    omega
      subst hk'
      rw [List.take_length] at hz
      rw [errs_all Inp.check hz] at kr
      repeat (first | refine gG ?_ | refine zN1 (fun hlen => ?_) | refine zN2 (fun hlen => ?_) | refine zAl (fun _ => ?_) | refine zBx (fun _ => ?_))
      first | refine zR ?_ | refine zQ ?_
      rw [kr]; rfl
set_option maxRecDepth 100000 in
set_option maxHeartbeats 2000000 in
theorem listI_ag (f : FuncId) (enc : Inp → List UInt8) (l : List Inp) (hf : ∀ x ∈ l, ∀ (v : Value) (b : List UInt8), b.length + (enc x).length ≤ 1099511627776 → AG Tryz.prog f [.own 0 v, .c (.agg (Inp.ts x))] [.row v 5 1 b.length (byts b)] (Grew 5 (b ++ enc x)))
    (v : Value) (b : List UInt8) (hn : l.length < 9223372036854775808) (hb : b.length + (uv l.length ++ l.flatMap enc).length ≤ 1099511627776) :
    AG Tryz.prog 112 [.own 0 v, .c (inpRow l), .fn (.func f) []] [.row v 5 1 b.length (byts b)] (Grew 5 (b ++ (uv l.length ++ l.flatMap enc))) := by
  have hc := nat_ag v b l.length hn (by omega)
  refine ag_enter 1 tok Tryz.func112 Tryz.ntmps112 Tryz.results112 rfl (by kernel_rfl) rfl fun F => ?_
  repeat (first | refine gG ?_ | refine zN1 (fun hlen => ?_) | refine zN2 (fun hlen => ?_) | refine zAl (fun _ => ?_))
  refine zCallG [0] hc ?_
  rintro _ _ ⟨v', rfl, rfl⟩
  refine ⟨.own 0 v', _, re_own, rfl, rfl, ?_⟩
  repeat (first | refine gG ?_ | refine zN1 (fun hlen => ?_) | refine zN2 (fun hlen => ?_) | refine zAl (fun _ => ?_))
  refine x_loop [0, 8, 15, 16, 17, 18, 19, 20, 21, 22, 23] (fun y : Nat × Value => [(15, .c (.lit (.int .i64 (y.1 : Nat)))), (0, .own 0 y.2)]) (fun y => [.row y.2 5 1 (b ++ (uv l.length ++ (l.take y.1).flatMap enc)).length (byts (b ++ (uv l.length ++ (l.take y.1).flatMap enc)))])
    (fun y => y.1 ≤ l.length) (fun y => l.length - y.1) (0, v') (Nat.zero_le _) ⟨rfl, rfl, trivial⟩ (by simp) ?_
  rintro ⟨k, u⟩ hk
  dsimp only at hk ⊢
  repeat (first | refine gG ?_ | refine zN1 (fun hlen => ?_) | refine zN2 (fun hlen => ?_) | refine zAl (fun _ => ?_))
  refine x_cond rfl (fun h => ?_) (fun h => ?_)
  · have hk' : k < l.length := by simpa using h
    obtain ⟨a, ha⟩ := nth hk'
    have hsn := flat_snoc' enc ha
    have hle : ((l.take (k + 1)).flatMap enc).length ≤ (l.flatMap enc).length := by
      have := congrArg (fun r => (List.flatMap enc r).length) (List.take_append_drop (k + 1) l)
      simp only [List.flatMap_append, List.length_append] at this
      omega
    have hca := hf a (List.mem_of_getElem? ha) u (b ++ (uv l.length ++ (l.take k).flatMap enc)) (by
      rw [hsn] at hle
      simp only [List.length_append] at hle hb ⊢
      omega)
    repeat (first | refine gG ?_ | refine zN1 (fun hlen => ?_) | refine zN2 (fun hlen => ?_) | refine zAl (fun _ => ?_))
    refine zIx (k) (hk') ?_
    repeat (first | refine gG ?_ | refine zN1 (fun hlen => ?_) | refine zN2 (fun hlen => ?_) | refine zAl (fun _ => ?_))
    refine zEl (flat_at Inp.ts 5 Inp.ts_len ha) (Inp.ts_len a) ?_
    obtain ⟨kd, ⟨ka, na, ta, la⟩⟩ := a
    repeat (first | refine gG ?_ | refine zN1 (fun hlen => ?_) | refine zN2 (fun hlen => ?_) | refine zAl (fun _ => ?_))
    refine zCallG [0] hca ?_
    rintro _ _ ⟨u', rfl, rfl⟩
    refine ⟨.own 0 u', _, re_own, rfl, rfl, ?_⟩
    repeat (first | refine gG ?_ | refine zN1 (fun hlen => ?_) | refine zN2 (fun hlen => ?_) | refine zAl (fun _ => ?_))
    exact ⟨(k + 1, u'), hk', by simp only; omega, x_wkd 1 ⟨rfl, rfl, trivial⟩ (by simp only [hsn, List.append_assoc]; rfl) (by repeat (first | exact ag_refl | refine ag_upd rfl ?_ | refine ag_at rfl rfl ?_))⟩
  · have hk' : k = l.length := by have : ¬ k < l.length := by simpa using h
                                  omega
    subst hk'
    repeat (first | refine gG ?_ | refine zN1 (fun hlen => ?_) | refine zN2 (fun hlen => ?_) | refine zAl (fun _ => ?_))
    refine zG ?_
    refine ⟨_, rfl, ?_⟩
    rw [List.take_length]
set_option maxRecDepth 100000 in
set_option maxHeartbeats 4000000 in
theorem appendInput_ag (x : Inp) (hok : x.val.ok) (v : Value) (b : List UInt8) (hb : b.length + x.bytes.length ≤ 1099511627776) :
    AG Tryz.prog 116 [.own 0 v, .c (.agg x.ts)] [.row v 5 1 b.length (byts b)] (Grew 5 (b ++ x.bytes)) := by
  obtain ⟨k, y⟩ := x
  simp only [Inp.bytes] at hb ⊢
  by_cases hk : k = 3
  · rw [if_pos hk] at hb ⊢
    have d1 : decide (k = 3) = true := decide_eq_true hk
    obtain ⟨ky, ny, ty, ly⟩ := y
    refine ag_enter 1 tok Tryz.func116 Tryz.ntmps116 Tryz.results116 rfl (by kernel_rfl) rfl fun F => ?_
    repeat (first | refine gX ?_ | refine zBf ?_ | refine zAp (fun _ => ?_))
    refine lo_conv tok rfl rfl rfl rfl rfl ?_
    repeat (first | refine gG ?_ | refine zBf ?_ | refine zAp (fun _ => ?_))
    refine zG ?_
    exact ⟨_, rfl, by rw [byts_app, List.length_append, ← kb_T]; rfl⟩
  · rw [if_neg hk] at hb ⊢
    simp only [List.length_cons] at hb
    have d1 : decide (k = 3) = false := decide_eq_false hk
    have hi1 : ∀ v1, AG Tryz.prog 115 [.own 0 v1, .c y.t] [.row v1 5 1 (b.length + 1) (byts b ++ [.lit (.int .u8 (IntKind.u8.wrap k))])] (Grew 5 (b ++ (kb k :: y.bytes))) := by
      intro v1
      have h := appendValue_ag y hok v1 (b ++ [kb k]) (by simp only [List.length_append, List.length_cons, List.length_nil]; omega)
      rw [← kb_T]
      simpa [byts] using h
    generalize y.bytes = yb at *
    obtain ⟨ky, ny, ty, ly⟩ := y
    refine ag_enter 1 tok Tryz.func116 Tryz.ntmps116 Tryz.results116 rfl (by kernel_rfl) rfl fun F => ?_
    repeat (first | refine gX ?_ | refine zBf ?_ | refine zAp (fun _ => ?_))
    refine lo_conv tok rfl rfl rfl rfl rfl ?_
    repeat (first | refine gG ?_ | refine zBf ?_ | refine zAp (fun _ => ?_))
    refine zCallG [0] (hi1 _) ?_
    rintro _ _ ⟨v', rfl, rfl⟩
    refine ⟨.own 0 v', _, re_own, rfl, rfl, ?_⟩
    repeat (first | refine gG ?_ | refine zBx (fun _ => ?_) | refine zAp (fun _ => ?_))
    refine zG ?_
    exact ⟨_, rfl, rfl⟩
theorem Inp.bytes_le {x : Inp} (h : x.val.tiny) : x.bytes.length ≤ 34000001 := by
  have := h.2.2
  unfold Inp.bytes
  split <;> simp only [List.length_cons, List.length_nil] <;> omega
theorem flat_le {α : Type} (f : α → List UInt8) (B : Nat) : ∀ {l : List α}, (∀ x ∈ l, (f x).length ≤ B) → (l.flatMap f).length ≤ l.length * B
  | [], _ => by simp
  | a :: l, h => by
    have h1 := h a (by simp)
    have h2 := flat_le f B (l := l) fun x hx => h x (List.mem_cons_of_mem _ hx)
    simp only [List.flatMap_cons, List.length_append, List.length_cons, Nat.succ_mul]
    omega
theorem Sav.bytes_le {s : Sav} (hs : s.Small) (h : s.Right) : s.bytes.length ≤ 68300000000 := by
  have h1 := flat_le V.bytes 34000000 (l := s.state) fun v hv => (hs.state v hv).2.2
  have h2 := flat_le Inp.bytes 34000001 (l := s.inputs) fun x hx => Inp.bytes_le (hs.inp x hx)
  have h3 := h.actor
  have h4 := h.states
  have h5 := h.inps
  have u1 := uv_len64 (n := s.actor.size) (by omega)
  have u2 := uv_len64 (n := s.state.length) (by omega)
  have u3 := uv_len64 (n := s.inputs.length) (by omega)
  have h6 : s.state.length * 34000000 ≤ 6 * 34000000 := Nat.mul_le_mul_right _ h4
  have h7 : s.inputs.length * 34000001 ≤ 2000 * 34000001 := Nat.mul_le_mul_right _ h5
  simp only [Sav.bytes, List.length_append, sz_len]
  omega
set_option maxRecDepth 100000 in
set_option maxHeartbeats 4000000 in
theorem appendSaved_ag (s : Sav) (hst : ∀ v ∈ s.state, v.ok) (hin : ∀ x ∈ s.inputs, x.val.ok) (h1 : s.state.length ≤ 6) (h2 : s.inputs.length ≤ 2000) (v : Value) (b : List UInt8) (hb : b.length + s.bytes.length ≤ 1099511627776) :
    AG Tryz.prog 94 [.own 0 v, .c s.t] [.row v 5 1 b.length (byts b)] (Grew 5 (b ++ s.bytes)) := by
  obtain ⟨ac, st, l⟩ := s
  dsimp only at hst hin h1 h2
  have e0 : (Sav.mk ac st l).bytes = uv ac.size ++ (ac.data.toList ++ (uv st.length ++ (st.flatMap V.bytes ++ (uv l.length ++ l.flatMap Inp.bytes)))) := rfl
  rw [e0] at hb ⊢
  simp only [List.length_append, sz_len] at hb
  have c1 := text_ag v b ac (by omega)
  have c2 := fun v2 => listV_ag 115 V.bytes st (fun x hx v b hb => appendValue_ag x (hst x hx) v b hb) v2 (b ++ (uv ac.size ++ ac.data.toList)) (by omega) (by simp only [List.length_append, sz_len]; omega)
  have c3 := fun v3 => listI_ag 116 Inp.bytes l (fun x hx v b hb => appendInput_ag x (hin x hx) v b hb) v3 (b ++ (uv ac.size ++ ac.data.toList) ++ (uv st.length ++ st.flatMap V.bytes)) (by omega) (by simp only [List.length_append, sz_len]; omega)
  refine ag_enter 1 tok Tryz.func94 Tryz.ntmps94 Tryz.results94 rfl (by kernel_rfl) rfl fun F => ?_
  repeat (first | refine gG ?_ | refine zBf ?_)
  refine ac_draw [0, 0, 0, 2, 0, 0, 2, 0, 0, 2, 1] [0, 1, 2, 4, 5, 7, 8, 3, 6, 9, 10] (by kernel_rfl) (by kernel_rfl) ?_
  refine gW ?_
  apply w_l; (focus exact rfl); (focus exact rfl); (refine zCallG [0] c1 ?_; rintro _ _ ⟨v', rfl, rfl⟩; refine ⟨.own 0 v', _, re_own, rfl, rfl, ?_⟩)
  apply w_l; (focus exact rfl); (focus exact rfl); (refine zCallG [0] (c2 _) ?_; rintro _ _ ⟨v', rfl, rfl⟩; refine ⟨.own 0 v', _, re_own, rfl, rfl, ?_⟩)
  apply w_l; (focus exact rfl); (focus exact rfl); (refine zCallG [0] (c3 _) ?_; rintro _ _ ⟨v', rfl, rfl⟩; refine ⟨.own 0 v', _, re_own, rfl, rfl, ?_⟩)
  refine gW ?_
  refine w_nil ?_
  repeat (first | refine gG ?_ | refine zBx (fun _ => ?_))
  refine zG ?_
  exact ⟨_, rfl, by simp only [List.append_assoc]⟩
end Go.Proofs.YthgackidonocpaaGreat
namespace Go.Proofs.YthgackidonocpaaGreat
open Go.RowKit
theorem size_lt1 (s : ByteArray) : decide (s = ⟨#[]⟩) = decide ((s.size : Int) < 1) := by
  by_cases h : s = ⟨#[]⟩
  · subst h; rfl
  · rw [decide_eq_false h, decide_eq_false]
    intro h1
    apply h
    have h2 : s.size = 0 := by omega
    obtain ⟨⟨l⟩⟩ := s
    have h3 : l.length = 0 := h2
    rw [List.eq_nil_of_length_eq_zero h3]
set_option maxRecDepth 100000 in
set_option maxHeartbeats 4000000 in
theorem savedFault_af (s : Sav) (hst : ∀ v ∈ s.state, v.size ≤ 1048576) (hin : ∀ x ∈ s.inputs, x.val.size ≤ 1048576) : AF Tryz.prog 77 [s.t] (· = .lit (.int .i64 s.check)) := by
  have k3 := @Sav.check_3 s
  have k2 := @Sav.check_2 s
  have kr := @Sav.check_r s
  obtain ⟨ac, st, l⟩ := s
  dsimp only at k3 k2 kr hst hin
  generalize hck : (Sav.mk ac st l).check = ck at *
  refine af_enter tok Tryz.func77 Tryz.ntmps77 Tryz.results77 rfl (by kernel_rfl) rfl rfl fun F hX => ?_
  have e0 : decide (ac = ⟨#[]⟩) = decide ((ac.size : Int) < 1) := size_lt1 ac
  cases d1 : decide ((ac.size : Int) < 1) <;> rw [d1] at e0
  rotate_left
  · repeat (first | refine gG ?_ | refine zN1 (fun hlen => ?_) | refine zN2 (fun hlen => ?_) | refine zAl (fun _ => ?_) | refine zBf ?_)
    first | refine zR ?_ | refine zQ ?_
    rw [k3 (by rw [d1]; rfl)]; rfl
  cases d2 : decide ((16 : Int) < (ac.size : Int))
  rotate_left
  · repeat (first | refine gG ?_ | refine zN1 (fun hlen => ?_) | refine zN2 (fun hlen => ?_) | refine zAl (fun _ => ?_) | refine zBf ?_)
    first | refine zR ?_ | refine zQ ?_
    rw [k3 (by rw [d1, d2]; rfl)]; rfl
  have j1 : (decide ((ac.size : Int) < 1) || decide ((16 : Int) < (ac.size : Int))) = false := by rw [d1, d2]; rfl
  cases d3 : decide ((6 : Int) < (st.length : Int))
  rotate_left
  · repeat (first | refine gG ?_ | refine zN1 (fun hlen => ?_) | refine zN2 (fun hlen => ?_) | refine zAl (fun _ => ?_) | refine zBf ?_)
    first | refine zR ?_ | refine zQ ?_
    rw [k2 j1 (by rw [d3]; rfl)]; rfl
  cases d4 : decide ((2000 : Int) < (l.length : Int))
  rotate_left
  · repeat (first | refine gG ?_ | refine zN1 (fun hlen => ?_) | refine zN2 (fun hlen => ?_) | refine zAl (fun _ => ?_) | refine zBf ?_)
    first | refine zR ?_ | refine zQ ?_
    rw [k2 j1 (by rw [d3, d4]; rfl)]; rfl
  have kr := kr j1 (by rw [d3, d4]; rfl)
  clear k3 k2 j1
  repeat (first | refine gG ?_ | refine zN1 (fun hlen => ?_) | refine zN2 (fun hlen => ?_) | refine zAl (fun _ => ?_) | refine zBf ?_)
  refine x_loop [2, 4, 5, 31, 32, 33, 34, 35, 36, 37, 38, 39, 40] (fun k : Nat => [(31, .c (.lit (.int .i64 k)))]) (fun _ => []) (fun k => k ≤ st.length ∧ ∀ x ∈ st.take k, V.check x = 0) (fun k => st.length - k) 0 ⟨Nat.zero_le _, by simp⟩ ⟨rfl, trivial⟩ rfl ?_
  rintro k ⟨hk, hz⟩
  repeat (first | refine gG ?_ | refine zN1 (fun hlen => ?_) | refine zN2 (fun hlen => ?_) | refine zAl (fun _ => ?_) | refine zBx (fun _ => ?_))
  refine x_cond rfl (fun h => ?_) (fun h => ?_)
  · have hk' : k < st.length := by simpa using h
    obtain ⟨a, ha⟩ := nth hk'
    have hs := valueFault_af a (hst a (List.mem_of_getElem? ha))
    have he := errs_at V.check hz ha
    have hsn := take_snoc (p := fun x => V.check x = 0) ha hz
    repeat (first | refine gG ?_ | refine zN1 (fun hlen => ?_) | refine zN2 (fun hlen => ?_) | refine zAl (fun _ => ?_) | refine zBx (fun _ => ?_))
    refine zIx (k) (hk') ?_
    repeat (first | refine gG ?_ | refine zN1 (fun hlen => ?_) | refine zN2 (fun hlen => ?_) | refine zAl (fun _ => ?_) | refine zBx (fun _ => ?_))
    refine zEl (V.at ha) (V.ts_len a) ?_
    generalize hca : a.check = ca at *
    obtain ⟨ka, na, ta, la⟩ := a
    repeat (first | refine gG ?_ | refine zN1 (fun hlen => ?_) | refine zN2 (fun hlen => ?_) | refine zAl (fun _ => ?_) | refine zBx (fun _ => ?_))
    refine zCall (hs) ?_
    rintro _ rfl
    cases c1 : decide (ca = 0)
    · have c0 : ¬ ca = 0 := of_decide_eq_false c1
      repeat (first | refine gG ?_ | refine zN1 (fun hlen => ?_) | refine zN2 (fun hlen => ?_) | refine zAl (fun _ => ?_) | refine zBx (fun _ => ?_))
      first | refine zR ?_ | refine zQ ?_
      rw [kr, he c0, if_neg c0]; rfl
    · have c0 : ca = 0 := of_decide_eq_true c1
      repeat (first | refine gG ?_ | refine zN1 (fun hlen => ?_) | refine zN2 (fun hlen => ?_) | refine zAl (fun _ => ?_) | refine zBx (fun _ => ?_))
      exact ⟨k + 1, ⟨hk', hsn c0⟩, by omega, x_wkd 0 ⟨rfl, trivial⟩ rfl (by repeat (first | exact ag_refl | refine ag_upd rfl ?_ | refine ag_at rfl rfl ?_))⟩
  · have hk' : k = st.length := by have : ¬ k < st.length := by simpa using h
                                   omega
    subst hk'
    rw [List.take_length] at hz
    rw [errs_all V.check hz, if_pos rfl] at kr
    repeat (first | refine gG ?_ | refine zN1 (fun hlen => ?_) | refine zN2 (fun hlen => ?_) | refine zAl (fun _ => ?_) | refine zBx (fun _ => ?_))
    refine x_loop [2, 7, 8, 44, 45, 46, 47, 48, 49, 50, 51, 52, 53, 54, 55, 56, 57, 58, 59, 60, 61, 62, 63, 64, 65, 66, 67, 68, 69, 70, 71, 72, 73, 74, 75, 76] (fun k : Nat => [(44, .c (.lit (.int .i64 k)))]) (fun _ => []) (fun k => k ≤ l.length ∧ ∀ x ∈ l.take k, Inp.check x = 0) (fun k => l.length - k) 0 ⟨Nat.zero_le _, by simp⟩ ⟨rfl, trivial⟩ rfl ?_
    rintro k ⟨hk, hz⟩
    repeat (first | refine gG ?_ | refine zN1 (fun hlen => ?_) | refine zN2 (fun hlen => ?_) | refine zAl (fun _ => ?_) | refine zBx (fun _ => ?_))
    refine x_cond rfl (fun h => ?_) (fun h => ?_)
    · have hk' : k < l.length := by simpa using h
      obtain ⟨a, ha⟩ := nth hk'
      have hs := valueFault_af a.val (hin a (List.mem_of_getElem? ha))
      have hz3 := none_af a.val
      have he := errs_at Inp.check hz ha
      have hsn := take_snoc (p := fun x => Inp.check x = 0) ha hz
      have kb := @Inp.check_bad a
      have k3 := @Inp.check_3 a
      have kv := @Inp.check_v a
      repeat (first | refine gG ?_ | refine zN1 (fun hlen => ?_) | refine zN2 (fun hlen => ?_) | refine zAl (fun _ => ?_) | refine zBx (fun _ => ?_))
      refine zIx (k) (hk') ?_
      repeat (first | refine gG ?_ | refine zN1 (fun hlen => ?_) | refine zN2 (fun hlen => ?_) | refine zAl (fun _ => ?_) | refine zBx (fun _ => ?_))
      refine zEl (flat_at Inp.ts 5 Inp.ts_len ha) (Inp.ts_len a) ?_
      obtain ⟨kd, v⟩ := a
      simp only [Inp.bad] at kb k3 kv
      dsimp only at hs hz3 kb k3 kv
      generalize (Inp.mk kd v).check = ca at *
      generalize v.check = cv at *
      generalize v.isZ = zv at *
      obtain ⟨ka, na, ta, la⟩ := v
      cases e1 : decide (kd < 1)
      rotate_left
      · have kb := kb (by rw [e1]; rfl)
        repeat (first | refine gG ?_ | refine zN1 (fun hlen => ?_) | refine zN2 (fun hlen => ?_) | refine zAl (fun _ => ?_) | refine zBx (fun _ => ?_))
        first | refine zR ?_ | refine zQ ?_
        rw [kr, he (by omega), kb]; rfl
      cases e2 : decide ((3 : Int) < kd)
      rotate_left
      · have kb := kb (by rw [e1, e2]; rfl)
        repeat (first | refine gG ?_ | refine zN1 (fun hlen => ?_) | refine zN2 (fun hlen => ?_) | refine zAl (fun _ => ?_) | refine zBx (fun _ => ?_))
        first | refine zR ?_ | refine zQ ?_
        rw [kr, he (by omega), kb]; rfl
      cases e3 : decide (kd = 3)
      · have e4 : decide (kd < 3) = true := decide_eq_true (by have := of_decide_eq_false e2; have := of_decide_eq_false e3; omega)
        have kv := kv (by rw [e1, e2, e3]; rfl) (of_decide_eq_false e3)
        repeat (first | refine gG ?_ | refine zN1 (fun hlen => ?_) | refine zN2 (fun hlen => ?_) | refine zAl (fun _ => ?_) | refine zBx (fun _ => ?_))
        refine zCall (hs) ?_
        rintro _ rfl
        cases c1 : decide (cv = 0)
        · have c0 : ¬ cv = 0 := of_decide_eq_false c1
          repeat (first | refine gG ?_ | refine zN1 (fun hlen => ?_) | refine zN2 (fun hlen => ?_) | refine zAl (fun _ => ?_) | refine zBx (fun _ => ?_))
          first | refine zR ?_ | refine zQ ?_
          rw [kr, he (by omega), kv]; rfl
        · have c0 : cv = 0 := of_decide_eq_true c1
          repeat (first | refine gG ?_ | refine zN1 (fun hlen => ?_) | refine zN2 (fun hlen => ?_) | refine zAl (fun _ => ?_) | refine zBx (fun _ => ?_))
          exact ⟨k + 1, ⟨hk', hsn (by omega)⟩, by omega, x_wkd 0 ⟨rfl, trivial⟩ rfl (by repeat (first | exact ag_refl | refine ag_upd rfl ?_ | refine ag_at rfl rfl ?_))⟩
      · have e4 : decide (kd < 3) = false := decide_eq_false (by have := of_decide_eq_true e3; omega)
        cases zv
        · have kb := kb (by rw [e1, e2, e3]; rfl)
          repeat (first | refine gG ?_ | refine zN1 (fun hlen => ?_) | refine zN2 (fun hlen => ?_) | refine zAl (fun _ => ?_) | refine zBx (fun _ => ?_))
          refine zCall (hz3) ?_
          rintro _ rfl
          repeat (first | refine gG ?_ | refine zN1 (fun hlen => ?_) | refine zN2 (fun hlen => ?_) | refine zAl (fun _ => ?_) | refine zBx (fun _ => ?_))
          first | refine zR ?_ | refine zQ ?_
          rw [kr, he (by omega), kb]; rfl
        · have k3 := k3 (by rw [e1, e2, e3]; rfl) (of_decide_eq_true e3)
          repeat (first | refine gG ?_ | refine zN1 (fun hlen => ?_) | refine zN2 (fun hlen => ?_) | refine zAl (fun _ => ?_) | refine zBx (fun _ => ?_))
          refine zCall (hz3) ?_
          rintro _ rfl
          repeat (first | refine gG ?_ | refine zN1 (fun hlen => ?_) | refine zN2 (fun hlen => ?_) | refine zAl (fun _ => ?_) | refine zBx (fun _ => ?_))
          exact ⟨k + 1, ⟨hk', hsn (by omega)⟩, by omega, x_wkd 0 ⟨rfl, trivial⟩ rfl (by repeat (first | exact ag_refl | refine ag_upd rfl ?_ | refine ag_at rfl rfl ?_))⟩
    · have hk' : k = l.length := by have : ¬ k < l.length := by simpa using h
                                    omega
      subst hk'
      rw [List.take_length] at hz
      rw [errs_all Inp.check hz] at kr
      repeat (first | refine gG ?_ | refine zN1 (fun hlen => ?_) | refine zN2 (fun hlen => ?_) | refine zAl (fun _ => ?_) | refine zBx (fun _ => ?_))
      first | refine zR ?_ | refine zQ ?_
      rw [kr]; rfl
theorem flat_take_le {α : Type} (f : α → List UInt8) (l : List α) (k : Nat) : ((l.take k).flatMap f).length ≤ (l.flatMap f).length := by
  have := congrArg (fun r => (List.flatMap f r).length) (List.take_append_drop k l)
  simp only [List.flatMap_append, List.length_append] at this
  omega
set_option maxRecDepth 100000 in
set_option maxHeartbeats 4000000 in
theorem savedText_af (s : Sav) (hst : ∀ v ∈ s.state, v.ok) (hin : ∀ x ∈ s.inputs, x.val.ok ∧ x.kind ≤ 3) (h1 : s.state.length ≤ 6) (h2 : s.inputs.length ≤ 2000) (hb : s.bytes.length ≤ 1099511627776) : AF Tryz.prog 55 [s.t] (· = .lit (.string (bs s.bytes))) := by
  obtain ⟨ac, st, l⟩ := s
  dsimp only at hst hin h1 h2
  have e0 : (Sav.mk ac st l).bytes = uv ac.size ++ (ac.data.toList ++ (uv st.length ++ (st.flatMap V.bytes ++ (uv l.length ++ l.flatMap Inp.bytes)))) := rfl
  rw [e0] at hb ⊢
  simp only [List.length_append, sz_len] at hb
  have c1 := rnat_af ac.size (by omega)
  have c2 := rnat_af st.length (by omega)
  have c3 := rnat_af l.length (by omega)
  have w1 : IntKind.u64.wrap (ac.size : Int) = (ac.size : Int) := by rw [wrap_u64]; omega
  have w2 : IntKind.u64.wrap (st.length : Int) = (st.length : Int) := by rw [wrap_u64]; omega
  have w3 : IntKind.u64.wrap (l.length : Int) = (l.length : Int) := by rw [wrap_u64]; omega
  refine af_enter tok Tryz.func55 Tryz.ntmps55 Tryz.results55 rfl (by kernel_rfl) rfl rfl fun F hX => ?_
  repeat (first | refine gG ?_ | refine zN1 (fun hlen => ?_) | refine zN2 (fun hlen => ?_) | refine zAl (fun _ => ?_) | refine zBf ?_)
  refine ac_draw [1, 1, 1, 1, 1, 1, 1, 1, 1, 1, 1, 1, 1, 1, 1] [0, 1, 2, 3, 4, 5, 6, 7, 8, 9, 10, 11, 12, 13, 14] (by kernel_rfl) (by kernel_rfl) ?_
  refine gW ?_
  apply w_q; (focus exact rfl); (focus exact rfl); focus (intro _; (refine lo_conv tok rfl rfl rfl rfl w1 ?_); exact det_refl)
  apply w_q; (focus exact rfl); (focus exact rfl); focus (intro _; (refine lo_call c1 rfl (by repeat (first | exact rzs_nil | apply rzs_cons | exact rz_c | exact rz_nil rfl | apply rz_agg | exact rz_own rfl | apply rz_fn | exact rz_ptr rfl | apply rz_tup)) ?_; rintro _ rfl); exact det_refl)
  refine gW ?_
  apply w_q; (focus exact rfl); (focus exact rfl); focus (intro _; (refine zCatb (uv ac.size) ac.data.toList (by simp only [sz_len]; omega) ?_); exact det_refl)
  refine gW ?_
  apply w_q; (focus exact rfl); (focus exact rfl); focus (intro _; (refine lo_conv tok rfl rfl rfl rfl w2 ?_); exact det_refl)
  apply w_q; (focus exact rfl); (focus exact rfl); focus (intro _; (refine lo_call c2 rfl (by repeat (first | exact rzs_nil | apply rzs_cons | exact rz_c | exact rz_nil rfl | apply rz_agg | exact rz_own rfl | apply rz_fn | exact rz_ptr rfl | apply rz_tup)) ?_; rintro _ rfl); exact det_refl)
  apply w_q; (focus exact rfl); (focus exact rfl); focus (intro _; (refine zCatb (uv ac.size ++ ac.data.toList) (uv st.length) (by simp only [List.length_append, sz_len]; omega) ?_); exact det_refl)
  refine gW ?_
  refine w_nil ?_
  repeat (first | refine gG ?_ | refine zN1 (fun hlen => ?_) | refine zN2 (fun hlen => ?_) | refine zAl (fun _ => ?_) | refine zBx (fun _ => ?_))
  refine x_loop [3, 5, 25, 26, 27, 28, 29, 30, 31, 32, 33] (fun y : Nat => [(25, .c (.lit (.int .i64 (y : Nat)))), (3, .c (.lit (.string (bs (uv ac.size ++ ac.data.toList ++ uv st.length ++ (st.take y).flatMap V.bytes)))))]) (fun _ => []) (fun y => y ≤ st.length) (fun y => st.length - y) 0 (Nat.zero_le _) ⟨rfl, by simp; rfl, trivial⟩ rfl ?_
  intro i hi
  repeat (first | refine gG ?_ | refine zN1 (fun hlen => ?_) | refine zN2 (fun hlen => ?_) | refine zAl (fun _ => ?_) | refine zBx (fun _ => ?_))
  refine x_cond rfl (fun h => ?_) (fun h => ?_)
  · have hi' : i < st.length := by simpa using h
    obtain ⟨a, hla⟩ := nth hi'
    have hsn := flat_snoc' V.bytes hla
    have hle := flat_take_le V.bytes st (i + 1)
    rw [hsn, List.length_append] at hle
    have hc := valueText_af a (hst a (List.mem_of_getElem? hla)) (by omega)
    repeat (first | refine gG ?_ | refine zN1 (fun hlen => ?_) | refine zN2 (fun hlen => ?_) | refine zAl (fun _ => ?_) | refine zBx (fun _ => ?_))
    refine zIx (i) (hi') ?_
    repeat (first | refine gG ?_ | refine zN1 (fun hlen => ?_) | refine zN2 (fun hlen => ?_) | refine zAl (fun _ => ?_) | refine zBx (fun _ => ?_))
    refine zEl (V.at hla) (V.ts_len a) ?_
    obtain ⟨ka, na, ta, la⟩ := a
    repeat (first | refine gG ?_ | refine zN1 (fun hlen => ?_) | refine zN2 (fun hlen => ?_) | refine zAl (fun _ => ?_) | refine zBx (fun _ => ?_))
    refine zCall (hc) ?_
    rintro _ rfl
    repeat (first | refine gG ?_ | refine zN1 (fun hlen => ?_) | refine zN2 (fun hlen => ?_) | refine zAl (fun _ => ?_) | refine zBx (fun _ => ?_))
    refine zCatb (uv ac.size ++ ac.data.toList ++ uv st.length ++ (st.take i).flatMap V.bytes) (V.mk ka na ta la).bytes (by simp only [List.length_append, sz_len]; omega) ?_
    repeat (first | refine gG ?_ | refine zN1 (fun hlen => ?_) | refine zN2 (fun hlen => ?_) | refine zAl (fun _ => ?_) | refine zBx (fun _ => ?_))
    exact ⟨i + 1, hi', by omega, x_wkd 0 ⟨rfl, by simp only [hsn, List.append_assoc]; rfl, trivial⟩ rfl (by repeat (first | exact ag_refl | refine ag_upd rfl ?_ | refine ag_at rfl rfl ?_))⟩
  · have hi' : i = st.length := by have : ¬ i < st.length := by simpa using h
                                   omega
    subst hi'
    rw [List.take_length]
    repeat (first | refine gG ?_ | refine zN1 (fun hlen => ?_) | refine zN2 (fun hlen => ?_) | refine zAl (fun _ => ?_) | refine zBx (fun _ => ?_))
    refine lo_conv tok rfl rfl rfl rfl w3 ?_
    repeat (first | refine gG ?_ | refine zN1 (fun hlen => ?_) | refine zN2 (fun hlen => ?_) | refine zAl (fun _ => ?_) | refine zBx (fun _ => ?_))
    refine zCall (c3) ?_
    rintro _ rfl
    repeat (first | refine gG ?_ | refine zN1 (fun hlen => ?_) | refine zN2 (fun hlen => ?_) | refine zAl (fun _ => ?_) | refine zBx (fun _ => ?_))
    refine zCatb (uv ac.size ++ ac.data.toList ++ uv st.length ++ st.flatMap V.bytes) (uv l.length) (by simp only [List.length_append, sz_len]; omega) ?_
    repeat (first | refine gG ?_ | refine zN1 (fun hlen => ?_) | refine zN2 (fun hlen => ?_) | refine zAl (fun _ => ?_) | refine zBx (fun _ => ?_))
    refine x_loop [3, 7, 44, 45, 46, 47, 48, 49, 50, 51, 52, 53, 54, 55, 56, 57, 58, 59, 60, 61, 62, 63] (fun y : Nat => [(44, .c (.lit (.int .i64 (y : Nat)))), (3, .c (.lit (.string (bs (uv ac.size ++ ac.data.toList ++ uv st.length ++ st.flatMap V.bytes ++ uv l.length ++ (l.take y).flatMap Inp.bytes)))))]) (fun _ => []) (fun y => y ≤ l.length) (fun y => l.length - y) 0 (Nat.zero_le _) ⟨rfl, by simp; rfl, trivial⟩ rfl ?_
    intro i hi
    repeat (first | refine gG ?_ | refine zN1 (fun hlen => ?_) | refine zN2 (fun hlen => ?_) | refine zAl (fun _ => ?_) | refine zBx (fun _ => ?_))
    refine x_cond rfl (fun h => ?_) (fun h => ?_)
    · have hi' : i < l.length := by simpa using h
      obtain ⟨a, hla⟩ := nth hi'
      have hsn := flat_snoc' Inp.bytes hla
      have hle := flat_take_le Inp.bytes l (i + 1)
      rw [hsn, List.length_append] at hle
      have hok := hin a (List.mem_of_getElem? hla)
      repeat (first | refine gG ?_ | refine zN1 (fun hlen => ?_) | refine zN2 (fun hlen => ?_) | refine zAl (fun _ => ?_) | refine zBx (fun _ => ?_))
      refine zIx (i) (hi') ?_
      repeat (first | refine gG ?_ | refine zN1 (fun hlen => ?_) | refine zN2 (fun hlen => ?_) | refine zAl (fun _ => ?_) | refine zBx (fun _ => ?_))
      refine zEl (flat_at Inp.ts 5 Inp.ts_len hla) (Inp.ts_len a) ?_
      obtain ⟨kd, v⟩ := a
      by_cases hk : kd = 3
      · have d1 : decide (kd < 3) = false := decide_eq_false (by omega)
        have hbb : (Inp.mk kd v).bytes = [kb kd] := by simp only [Inp.bytes]; rw [if_pos hk]
        rw [hbb] at hsn hle
        simp only [List.length_cons] at hle
        obtain ⟨ka, na, ta, la⟩ := v
        repeat (first | refine gX ?_ | refine zN1 (fun hlen => ?_) | refine zN2 (fun hlen => ?_) | refine zAl (fun _ => ?_) | refine zBx (fun _ => ?_))
        refine lo_conv tok rfl rfl rfl rfl rfl ?_
        repeat (first | refine gG ?_ | refine zN1 (fun hlen => ?_) | refine zN2 (fun hlen => ?_) | refine zAl (fun _ => ?_) | refine zBx (fun _ => ?_))
        refine zStr [kb kd] (one_kb kd) rfl ?_
        repeat (first | refine gG ?_ | refine zN1 (fun hlen => ?_) | refine zN2 (fun hlen => ?_) | refine zAl (fun _ => ?_) | refine zBx (fun _ => ?_))
        refine zCatb (uv ac.size ++ ac.data.toList ++ uv st.length ++ st.flatMap V.bytes ++ uv l.length ++ (l.take i).flatMap Inp.bytes) [kb kd] (by simp only [List.length_append, List.length_cons, List.length_nil, sz_len]; omega) ?_
        repeat (first | refine gG ?_ | refine zN1 (fun hlen => ?_) | refine zN2 (fun hlen => ?_) | refine zAl (fun _ => ?_) | refine zBx (fun _ => ?_))
        exact ⟨i + 1, hi', by omega, x_wkd 0 ⟨rfl, by simp only [hsn, List.append_assoc]; rfl, trivial⟩ rfl (by repeat (first | exact ag_refl | refine ag_upd rfl ?_ | refine ag_at rfl rfl ?_))⟩
      · have d1 : decide (kd < 3) = true := decide_eq_true (by have := hok.2; simp only at this; omega)
        have hbb : (Inp.mk kd v).bytes = kb kd :: v.bytes := by simp only [Inp.bytes]; rw [if_neg hk]
        rw [hbb] at hsn hle
        simp only [List.length_cons] at hle
        have hc := valueText_af v hok.1 (by omega)
        generalize v.bytes = vb at *
        obtain ⟨ka, na, ta, la⟩ := v
        repeat (first | refine gX ?_ | refine zN1 (fun hlen => ?_) | refine zN2 (fun hlen => ?_) | refine zAl (fun _ => ?_) | refine zBx (fun _ => ?_))
        refine lo_conv tok rfl rfl rfl rfl rfl ?_
        repeat (first | refine gG ?_ | refine zN1 (fun hlen => ?_) | refine zN2 (fun hlen => ?_) | refine zAl (fun _ => ?_) | refine zBx (fun _ => ?_))
        refine zStr [kb kd] (one_kb kd) rfl ?_
        repeat (first | refine gG ?_ | refine zN1 (fun hlen => ?_) | refine zN2 (fun hlen => ?_) | refine zAl (fun _ => ?_) | refine zBx (fun _ => ?_))
        refine zCatb (uv ac.size ++ ac.data.toList ++ uv st.length ++ st.flatMap V.bytes ++ uv l.length ++ (l.take i).flatMap Inp.bytes) [kb kd] (by simp only [List.length_append, List.length_cons, List.length_nil, sz_len]; omega) ?_
        repeat (first | refine gG ?_ | refine zN1 (fun hlen => ?_) | refine zN2 (fun hlen => ?_) | refine zAl (fun _ => ?_) | refine zBx (fun _ => ?_))
        refine zCall (hc) ?_
        rintro _ rfl
        repeat (first | refine gG ?_ | refine zN1 (fun hlen => ?_) | refine zN2 (fun hlen => ?_) | refine zAl (fun _ => ?_) | refine zBx (fun _ => ?_))
        refine zCatb (uv ac.size ++ ac.data.toList ++ uv st.length ++ st.flatMap V.bytes ++ uv l.length ++ (l.take i).flatMap Inp.bytes ++ [kb kd]) vb (by simp only [List.length_append, List.length_cons, List.length_nil, sz_len]; omega) ?_
        repeat (first | refine gG ?_ | refine zN1 (fun hlen => ?_) | refine zN2 (fun hlen => ?_) | refine zAl (fun _ => ?_) | refine zBx (fun _ => ?_))
        exact ⟨i + 1, hi', by omega, x_wkd 0 ⟨rfl, by simp only [hsn, List.append_assoc, List.cons_append, List.nil_append]; rfl, trivial⟩ rfl (by repeat (first | exact ag_refl | refine ag_upd rfl ?_ | refine ag_at rfl rfl ?_))⟩
    · have hi' : i = l.length := by have : ¬ i < l.length := by simpa using h
                                    omega
      subst hi'
      rw [List.take_length]
      repeat (first | refine gG ?_ | refine zN1 (fun hlen => ?_) | refine zN2 (fun hlen => ?_) | refine zAl (fun _ => ?_) | refine zBx (fun _ => ?_))
      first | refine zR ?_ | refine zQ ?_
      simp only [List.append_assoc]; rfl
end Go.Proofs.YthgackidonocpaaGreat
