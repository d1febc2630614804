/-
  Texts of this proof, part 15: Tql Tud Ab28 Tuc.
-/
import Derived.Test.YthgackidonocpaaGreatQStoreLast14
import Derived.MapKept
namespace Go.Proofs.YthgackidonocpaaGreat
open Go.RowKit
set_option maxRecDepth 100000 in
set_option maxHeartbeats 4000000 in
theorem parcelSmall_af (p : Par) (hs : p.Small) (hn : p.sav.state.length ≤ 1048576) : AF Tryz.prog 27 [p.t] Tell := by
  have hv := savedSmall_af p.sav (fun v hv => (hs.sav.state v hv).2.1) (fun v hv => (hs.sav.inp v hv).2.1) hn
  have hbx := hs.box
  obtain ⟨rf, ⟨ac, st, ip⟩, l, tk, wt, lk⟩ := p
  dsimp only at hbx hv
  refine af_enter tok Tryz.func27 Tryz.ntmps27 Tryz.results27 rfl (by kernel_rfl) rfl rfl fun F hX => ?_
  repeat (first | refine gG ?_ | refine zN1 (fun hlen => ?_) | refine zN2 (fun hlen => ?_) | refine zAl (fun _ => ?_) | refine zBf ?_)
  refine x_loop [2, 4, 8, 9, 10, 11, 12, 13, 14, 15, 16] (fun k : Nat => [(8, .c (.lit (.int .i64 k)))]) (fun _ => []) (fun k => k ≤ l.length) (fun k => l.length - k) 0 (Nat.zero_le _) ⟨rfl, trivial⟩ rfl fun k hk => ?_
  repeat (first | refine gG ?_ | refine zN1 (fun hlen => ?_) | refine zN2 (fun hlen => ?_) | refine zAl (fun _ => ?_) | refine zBx (fun _ => ?_))
  refine x_cond rfl (fun h => ?_) (fun h => ?_)
  · have hk' : k < l.length := by simpa using h
    obtain ⟨a, ha⟩ := nth hk'
    have hs := valueSmall_af a.val (hbx a (List.mem_of_getElem? ha)).2.1
    repeat (first | refine gG ?_ | refine zN1 (fun hlen => ?_) | refine zN2 (fun hlen => ?_) | refine zAl (fun _ => ?_) | refine zBx (fun _ => ?_))
    refine zIx (k) (hk') ?_
    repeat (first | refine gG ?_ | refine zN1 (fun hlen => ?_) | refine zN2 (fun hlen => ?_) | refine zAl (fun _ => ?_) | refine zBx (fun _ => ?_))
    refine zEl (flat_at Lt.ts 9 Lt.ts_len ha) (Lt.ts_len a) ?_
    obtain ⟨ka, fa, ta, na, sa, ⟨kv, nv, tv, lv⟩⟩ := a
    simp only [Lt.val] at hs
    repeat (first | refine gG ?_ | refine zN1 (fun hlen => ?_) | refine zN2 (fun hlen => ?_) | refine zAl (fun _ => ?_) | refine zBx (fun _ => ?_))
    refine zCall (hs) ?_
    rintro _ ⟨b, rfl⟩
    cases b
    · repeat (first | refine gG ?_ | refine zN1 (fun hlen => ?_) | refine zN2 (fun hlen => ?_) | refine zAl (fun _ => ?_) | refine zBx (fun _ => ?_))
      first | refine zR ?_ | refine zQ ?_
      exact ⟨_, rfl⟩
    · repeat (first | refine gG ?_ | refine zN1 (fun hlen => ?_) | refine zN2 (fun hlen => ?_) | refine zAl (fun _ => ?_) | refine zBx (fun _ => ?_))
      exact ⟨k + 1, hk', by omega, x_wkd 0 ⟨rfl, trivial⟩ rfl (by repeat (first | exact ag_refl | refine ag_upd rfl ?_ | refine ag_at rfl rfl ?_))⟩
  · repeat (first | refine gG ?_ | refine zN1 (fun hlen => ?_) | refine zN2 (fun hlen => ?_) | refine zAl (fun _ => ?_) | refine zBx (fun _ => ?_))
    refine zCall (hv) ?_
    rintro _ ⟨b, rfl⟩
    repeat (first | refine gG ?_ | refine zN1 (fun hlen => ?_) | refine zN2 (fun hlen => ?_) | refine zAl (fun _ => ?_) | refine zBx (fun _ => ?_))
    first | refine zR ?_ | refine zQ ?_
    exact ⟨_, rfl⟩
set_option maxRecDepth 100000 in
set_option maxHeartbeats 1000000 in
theorem eqLets_af (f : FuncId) (l : List Lt) (hf : ∀ a ∈ l, AF Tryz.prog f [.agg (Lt.ts a), .agg (Lt.ts a)] (· = .lit (.bool true))) :
    AF Tryz.prog 24 [letRow l, letRow l, .fn (.func f) []] (· = .lit (.bool true)) := by
  have e0 : decide ((l.length : Int) = (l.length : Int)) = true := by simp
  refine af_enter tok Tryz.func24 Tryz.ntmps24 Tryz.results24 rfl (by kernel_rfl) rfl rfl fun F hX => ?_
  repeat (first | refine gG ?_ | refine zN1 (fun hlen => ?_) | refine zN2 (fun hlen => ?_) | refine zAl (fun _ => ?_))
  refine x_loop [6, 7, 8, 9, 17, 18, 19, 20, 21, 22, 23, 24, 25, 26, 27, 28, 29, 30, 31] (fun k : Nat => [(17, .c (.lit (.int .i64 k)))]) (fun _ => []) (fun k => k ≤ l.length) (fun k => l.length - k) 0 (Nat.zero_le _) ⟨rfl, trivial⟩ rfl fun k hk => ?_
  repeat (first | refine gG ?_ | refine zN1 (fun hlen => ?_) | refine zN2 (fun hlen => ?_) | refine zAl (fun _ => ?_))
  refine x_cond rfl (fun h => ?_) (fun h => ?_)
  · have hk' : k < l.length := by simpa using h
    obtain ⟨a, ha⟩ := nth hk'
    have hp := hf a (List.mem_of_getElem? ha)
    repeat (first | refine gG ?_ | refine zN1 (fun hlen => ?_) | refine zN2 (fun hlen => ?_) | refine zAl (fun _ => ?_))
    refine zIx (k) (hk') ?_
    repeat (first | refine gG ?_ | refine zN1 (fun hlen => ?_) | refine zN2 (fun hlen => ?_) | refine zAl (fun _ => ?_))
    refine zEl (flat_at Lt.ts 9 Lt.ts_len ha) (Lt.ts_len a) ?_
    obtain ⟨ka, fa, ta, na, sa, ⟨kv, nv, tv, lv⟩⟩ := a
    repeat (first | refine gG ?_ | refine zN1 (fun hlen => ?_) | refine zN2 (fun hlen => ?_) | refine zAl (fun _ => ?_))
    refine zIx (k) (hk') ?_
    repeat (first | refine gG ?_ | refine zN1 (fun hlen => ?_) | refine zN2 (fun hlen => ?_) | refine zAl (fun _ => ?_))
    refine zEl (flat_at Lt.ts 9 Lt.ts_len ha) (Lt.ts_len _) ?_
    repeat (first | refine gG ?_ | refine zN1 (fun hlen => ?_) | refine zN2 (fun hlen => ?_) | refine zAl (fun _ => ?_))
    refine zCallc (hp) ?_
    rintro _ rfl
    repeat (first | refine gG ?_ | refine zN1 (fun hlen => ?_) | refine zN2 (fun hlen => ?_) | refine zAl (fun _ => ?_))
    exact ⟨k + 1, hk', by omega, x_wkd 0 ⟨rfl, trivial⟩ rfl (by repeat (first | exact ag_refl | refine ag_upd rfl ?_ | refine ag_at rfl rfl ?_))⟩
  · repeat (first | refine gG ?_ | refine zN1 (fun hlen => ?_) | refine zN2 (fun hlen => ?_) | refine zAl (fun _ => ?_))
    first | refine zR ?_ | refine zQ ?_
    rfl
set_option maxRecDepth 100000 in
set_option maxHeartbeats 4000000 in
theorem eqInts_af (l : List Int) : AF Tryz.prog 49 [intRow l, intRow l] (· = .lit (.bool true)) := by
  have e0 : decide ((l.length : Int) = (l.length : Int)) = true := by simp
  refine af_enter tok Tryz.func49 Tryz.ntmps49 Tryz.results49 rfl (by kernel_rfl) rfl rfl fun F hX => ?_
  repeat (first | refine gG ?_ | refine zN1 (fun hlen => ?_) | refine zN2 (fun hlen => ?_))
  refine x_loop [4, 5, 13, 14, 15, 16, 17, 18, 19, 20, 21, 22, 23, 24, 25] (fun k : Nat => [(13, .c (.lit (.int .i64 k)))]) (fun _ => []) (fun k => k ≤ l.length) (fun k => l.length - k) 0 (Nat.zero_le _) ⟨rfl, trivial⟩ rfl fun k hk => ?_
  repeat (first | refine gG ?_ | refine zN1 (fun hlen => ?_) | refine zN2 (fun hlen => ?_))
  refine x_cond rfl (fun h => ?_) (fun h => ?_)
  · have hk' : k < l.length := by simpa using h
    obtain ⟨a, ha⟩ := nth hk'
    have e1 : decide (a = a) = true := by simp
    repeat (first | refine gG ?_ | refine zN1 (fun hlen => ?_) | refine zN2 (fun hlen => ?_))
    refine ac_draw [1, 1, 1, 1, 1, 1, 1, 1, 1] [0, 1, 2, 3, 4, 5, 6, 7, 8] (by kernel_rfl) (by kernel_rfl) ?_
    refine gW ?_
    apply w_q; (focus exact rfl); (focus exact rfl); focus (intro _; (refine zIx k hk' ?_); exact det_refl)
    apply w_q; (focus exact rfl); (focus exact rfl); focus (intro _; (refine zEl1 (int_at ha) ?_); exact det_refl)
    refine gW ?_
    apply w_q; (focus exact rfl); (focus exact rfl); focus (intro _; (refine zIx k hk' ?_); exact det_refl)
    apply w_q; (focus exact rfl); (focus exact rfl); focus (intro _; (refine zEl1 (int_at ha) ?_); exact det_refl)
    refine gW ?_
    refine w_nil ?_
    repeat (first | refine gG ?_ | refine zN1 (fun hlen => ?_) | refine zN2 (fun hlen => ?_))
    exact ⟨k + 1, hk', by omega, x_wkd 0 ⟨rfl, trivial⟩ rfl (by repeat (first | exact ag_refl | refine ag_upd rfl ?_ | refine ag_at rfl rfl ?_))⟩
  · repeat (first | refine gG ?_ | refine zN1 (fun hlen => ?_) | refine zN2 (fun hlen => ?_))
    first | refine zR ?_ | refine zQ ?_
    rfl
set_option maxRecDepth 100000 in
set_option maxHeartbeats 4000000 in
theorem sameLetter_af (x : Lt) : AF Tryz.prog 25 [.agg (Lt.ts x), .agg (Lt.ts x)] (· = .lit (.bool true)) := by
  obtain ⟨k, fm, tt, n, t, v⟩ := x
  have h3 := sameValue_af v v
  rw [V.same_refl] at h3
  have e1 : decide (k = k) = true := by simp
  have e2 : decide (fm = fm) = true := by simp
  have e3 : decide (tt = tt) = true := by simp
  have e4 : decide (n = n) = true := by simp
  have e5 : decide (t = t) = true := by simp
  obtain ⟨kv, nv, tv, lv⟩ := v
  refine af_enter tok Tryz.func25 Tryz.ntmps25 Tryz.results25 rfl (by kernel_rfl) rfl rfl fun F hX => ?_
  repeat (first | refine gG ?_ | refine zBf ?_)
  refine zCall (h3) ?_
  rintro _ rfl
  repeat (first | refine gG ?_ | refine zBx (fun _ => ?_))
  first | refine zR ?_ | refine zQ ?_
  rfl
set_option maxRecDepth 100000 in
set_option maxHeartbeats 4000000 in
theorem sameParcel_af (p : Par) : AF Tryz.prog 21 [p.t, p.t] (· = .lit (.bool true)) := by
  have h1 := sameSaved_af p.sav p.sav
  rw [Sav.same_refl] at h1
  have h2 := eqLets_af 25 p.box fun a _ => sameLetter_af a
  have h3 := eqInts_af p.wat
  have h4 := eqInts_af p.lnk
  obtain ⟨rf, ⟨ac, st, ip⟩, bx, tk, wt, lk⟩ := p
  have e1 : decide (rf = rf) = true := by simp
  have e2 : decide (tk = tk) = true := by simp
  refine af_enter tok Tryz.func21 Tryz.ntmps21 Tryz.results21 rfl (by kernel_rfl) rfl rfl fun F hX => ?_
  repeat (first | refine gG ?_ | refine zBf ?_)
  refine zCall (h1) ?_
  rintro _ rfl
  repeat (first | refine gG ?_ | refine zBx (fun _ => ?_))
  refine zCall (h2) ?_
  rintro _ rfl
  repeat (first | refine gG ?_ | refine zBx (fun _ => ?_))
  refine zCall (h3) ?_
  rintro _ rfl
  repeat (first | refine gG ?_ | refine zBx (fun _ => ?_))
  refine zCall (h4) ?_
  rintro _ rfl
  repeat (first | refine gG ?_ | refine zBx (fun _ => ?_))
  first | refine zR ?_ | refine zQ ?_
  rfl
end Go.Proofs.YthgackidonocpaaGreat
namespace Go.Proofs.YthgackidonocpaaGreat
open Go.RowKit
structure Wy where
  frm : Int
  to : Int
  lets : List Lt
def Wy.ts (w : Wy) : List T := [.lit (.int .i64 w.frm), .lit (.int .i64 w.to), letRow w.lets]
theorem Wy.ts_len (w : Wy) : w.ts.length = 3 := rfl
def parRow (l : List Par) : T := .row l.length 8 (l.flatMap Par.ts)
def wayRow (l : List Wy) : T := .row l.length 3 (l.flatMap Wy.ts)
structure Snp where
  time : Int
  pars : List Par
  ways : List Wy
def Snp.ts (s : Snp) : List T := [.lit (.int .i64 s.time), parRow s.pars, wayRow s.ways]
def Snp.t (s : Snp) : T := .agg s.ts
/-- each with the one ahead of it -/
def prevs {α : Type} (l : List α) : List (α × Option α) := l.zip (none :: l.map some)
theorem prevs_len {α : Type} (l : List α) : (prevs l).length = l.length := by simp [prevs]
theorem prevs_at0 {α : Type} {l : List α} {a : α} (h : l[0]? = some a) : (prevs l)[0]? = some (a, none) := by
  cases l with
  | nil => simp at h
  | cons b l => obtain rfl : b = a := by simpa using h
                rfl
theorem prevs_at {α : Type} {l : List α} {k : Nat} {a b : α} (h : l[k + 1]? = some a) (hb : l[k]? = some b) : (prevs l)[k + 1]? = some (a, some b) := by
  simp [prevs, List.getElem?_zip_eq_some, h, hb]
def isN (n : Int) : Bool := decide (1 ≤ n) && decide (n ≤ 8)
def orI (a b : Int) : Int := if a = 0 then b else a
def parE : Par × Option Par → Int
  | (p, none) => p.check
  | (p, some q) => if ¬ p.check = 0 then p.check else if p.ref ≤ q.ref then 21 else 0
def Wy.badN (w : Wy) : Bool := (!isN w.frm || !isN w.to) || decide (w.frm = w.to)
def ordM (fr to : Int) : Option Wy → Bool
  | none => false
  | some q => decide (orI (fr - q.frm) (to - q.to) ≤ 0)
def Wy.ordB (w : Wy) (o : Option Wy) : Bool := ordM w.frm w.to o
def wayE (x : Wy × Option Wy) : Int := if x.1.badN = true then 1 else if decide ((100 : Int) < (x.1.lets.length : Int)) = true then 2 else if x.1.ordB x.2 = true then 21 else errs (x.1.lets.map Lt.check)
def Snp.check (s : Snp) : Int :=
  if (decide ((100 : Int) < (s.pars.length : Int)) || decide ((60 : Int) < (s.ways.length : Int))) = true then 2
  else if decide (s.time < 0) = true then 1
  else if ¬ errs ((prevs s.pars).map parE) = 0 then errs ((prevs s.pars).map parE)
  else errs ((prevs s.ways).map wayE)
/-- a number in so many bytes, the greatest ahead -/
def numB (n : Int) : Nat → List UInt8
  | 0 => []
  | k + 1 => kb (n / 256 ^ k) :: numB n k
theorem numB_len (n : Int) : ∀ k, (numB n k).length = k
  | 0 => rfl
  | k + 1 => by simp [numB, numB_len n k]
def partB (x : List UInt8) : List UInt8 := numB x.length 4 ++ x
def pkOne (x : List UInt8) : List UInt8 := [kb ((x.length : Int) / 256), kb (x.length : Int)] ++ x
def bigB (x : List UInt8) : Bool := decide ((65535 : Int) < (x.length : Int))
def wayText (w : Wy) : List UInt8 := [kb w.frm, kb w.to] ++ (w.lets.map Lt.bytes).flatMap pkOne
def headB (s : Snp) : List UInt8 := numB s.time 8 ++ [kb (s.pars.length : Int), kb (s.ways.length : Int)]
def parPart (p : Par) : List UInt8 := partB p.bytes
def wayPart (w : Wy) : List UInt8 := partB (wayText w)
def Snp.bytes (s : Snp) : List UInt8 := headB s ++ s.pars.flatMap parPart ++ s.ways.flatMap wayPart
def Wy.big (w : Wy) : Bool := (w.lets.map Lt.bytes).any bigB
def Snp.err (s : Snp) : Int := if s.check = 0 then (if s.ways.any Wy.big = true then 2 else 0) else s.check
def Snp.out (s : Snp) : List UInt8 := if s.check = 0 then (if s.ways.any Wy.big = true then [] else s.bytes) else []
structure Snp.Right (s : Snp) : Prop where
  time : 0 ≤ s.time
  pars : s.pars.length ≤ 100
  ways : s.ways.length ≤ 60
  par : ∀ p ∈ s.pars, p.check = 0
  way : ∀ w ∈ s.ways, w.badN = false ∧ w.lets.length ≤ 100 ∧ ∀ l ∈ w.lets, l.check = 0
theorem mem_prevs {α : Type} {l : List α} {a : α} (h : a ∈ l) : ∃ o, (a, o) ∈ prevs l := by
  obtain ⟨k, hk⟩ := List.getElem?_of_mem h
  cases k with
  | zero => exact ⟨none, List.mem_of_getElem? (prevs_at0 hk)⟩
  | succ k =>
    have hlt : k < l.length := by have := (List.getElem?_eq_some_iff.1 hk).1; omega
    exact ⟨some l[k], List.mem_of_getElem? (prevs_at hk (List.getElem?_eq_getElem hlt))⟩
theorem parE_ok {p : Par} {o : Option Par} (h : parE (p, o) = 0) : p.check = 0 := by
  cases o with
  | none => exact h
  | some q =>
    simp only [parE] at h
    split at h
    · rename_i h1; exact absurd h h1
    · rename_i h1; omega
theorem wayE_ok {w : Wy} {o : Option Wy} (h : wayE (w, o) = 0) : w.badN = false ∧ w.lets.length ≤ 100 ∧ w.ordB o = false ∧ ∀ l ∈ w.lets, l.check = 0 := by
  unfold wayE at h
  dsimp only at h
  split at h
  · omega
  · rename_i h1
    split at h
    · omega
    · rename_i h2
      split at h
      · omega
      · rename_i h3
        simp only [decide_eq_true_eq] at h2
        exact ⟨by simpa using h1, by omega, by simpa using h3, errs_zero Lt.check h⟩
theorem Snp.right {s : Snp} (h : s.check = 0) : s.Right := by
  unfold Snp.check at h
  split at h
  · omega
  · rename_i h1
    split at h
    · omega
    · rename_i h2
      split at h
      · rename_i h3; exact absurd h h3
      · rename_i h3
        simp only [Bool.or_eq_true, decide_eq_true_eq, not_or] at h1 h2
        refine ⟨by omega, by omega, by omega, fun p hp => ?_, fun w hw => ?_⟩
        · obtain ⟨o, ho⟩ := mem_prevs hp
          exact parE_ok (errs_zero parE (by omega) _ ho)
        · obtain ⟨o, ho⟩ := mem_prevs hw
          obtain ⟨a1, a2, a3, a4⟩ := wayE_ok (errs_zero wayE h _ ho)
          exact ⟨a1, a2, a4⟩
structure Snp.Small (s : Snp) : Prop where
  par : ∀ p ∈ s.pars, p.Small ∧ p.sav.state.length ≤ 1048576
  way : ∀ w ∈ s.ways, ∀ l ∈ w.lets, l.tiny
  time : inI s.time
theorem pkOne_len (x : List UInt8) : (pkOne x).length = x.length + 2 := by simp only [pkOne, List.length_append, List.length_cons, List.length_nil]; omega
theorem partB_len (x : List UInt8) : (partB x).length = x.length + 4 := by simp only [partB, List.length_append, numB_len]; omega
theorem flat_map {α β : Type} (f : α → β) (g : β → List UInt8) : ∀ l : List α, (l.map f).flatMap g = l.flatMap fun x => g (f x)
  | [] => rfl
  | a :: l => by simp only [List.map_cons, List.flatMap_cons, flat_map f g l]
theorem wayText_le {w : Wy} (h : w.lets.length ≤ 100) (hs : ∀ l ∈ w.lets, l.tiny) : (wayText w).length ≤ 4000000202 := by
  have h1 := flat_le (fun x : Lt => pkOne x.bytes) 40000002 (l := w.lets) fun x hx => by rw [pkOne_len]; have := (hs x hx).2.2.1; omega
  have h2 : w.lets.length * 40000002 ≤ 100 * 40000002 := Nat.mul_le_mul_right _ h
  simp only [wayText, flat_map, List.length_append, List.length_cons, List.length_nil]
  omega
theorem Snp.bytes_le {s : Snp} (hs : s.Small) (h : s.Right) : s.bytes.length ≤ 8000000000000 := by
  have h1 := flat_le parPart 71000000004 (l := s.pars) fun p hp => by
    have := Par.bytes_le (hs.par p hp).1 (Par.right (h.par p hp))
    unfold parPart; rw [partB_len]; omega
  have h2 := flat_le wayPart 4000000206 (l := s.ways) fun w hw => by
    have := wayText_le (h.way w hw).2.1 (hs.way w hw)
    unfold wayPart; rw [partB_len]; omega
  have h3 : s.pars.length * 71000000004 ≤ 100 * 71000000004 := Nat.mul_le_mul_right _ h.pars
  have h4 : s.ways.length * 4000000206 ≤ 60 * 4000000206 := Nat.mul_le_mul_right _ h.ways
  simp only [Snp.bytes, headB, List.length_append, numB_len, List.length_cons, List.length_nil]
  omega
/-- the document's order of ways -/
theorem ord_eq {w q : Wy} (h : w.badN = false) (hq : q.badN = false) : decide (orI (w.frm - q.frm) (w.to - q.to) ≤ 0) = decide (10 * w.frm + w.to ≤ 10 * q.frm + q.to) := by
  simp only [Wy.badN, isN, Bool.or_eq_false_iff, Bool.not_eq_false', Bool.and_eq_true, decide_eq_true_eq] at h hq
  unfold orI
  split
  · by_cases h1 : w.to - q.to ≤ 0
    · rw [decide_eq_true h1, decide_eq_true (by omega)]
    · rw [decide_eq_false h1, decide_eq_false (by omega)]
  · by_cases h1 : w.frm - q.frm ≤ 0
    · rw [decide_eq_true h1, decide_eq_true (by omega)]
    · rw [decide_eq_false h1, decide_eq_false (by omega)]
end Go.Proofs.YthgackidonocpaaGreat
namespace Go.Proofs.YthgackidonocpaaGreat
open Go.RowKit
section
variable {P : Program} {F : Frm} {ops : Array Oper} {K : AS → Prop} {τ : Nat → AV} {hp : List Blk} {N : Nat} {rest : List Oper}
theorem al_wk {σ τ : AS} (h : Wk F σ τ) (hc : AL P F ops K rest τ) : AL P F ops K rest σ := ⟨fun M a w hr => let ⟨M', hr'⟩ := h M a w hr; hc.out M' a w hr'⟩
theorem al_fze (s : Nat) (t : T) {i : Nat} {v : Value} {e : TypeId} {sz n : Nat} {ts : List T} {hp' : List Blk} (ht : T.row n sz ts = t) (h : AL P F ops K rest ⟨upd N s (.c t) τ, hp', N⟩) (hs : τ s = .own i v := by exact rfl) (hi : hp[i]? = some (.row v e sz n ts) := by exact rfl) (hf : evl (hp.set i .dead) = some hp' := by exact rfl) (hN : Nat.blt s N = true := by exact rfl) : AL P F ops K rest ⟨τ, hp, N⟩ := by
  subst ht
  exact al_wk (wk_fz s hs hi hf hN) h
end
end Go.Proofs.YthgackidonocpaaGreat
namespace Go.Proofs.YthgackidonocpaaGreat
open Go.RowKit
set_option maxRecDepth 100000 in
set_option maxHeartbeats 4000000 in
theorem isNode_af (n : Int) : AF Tryz.prog 63 [.lit (.int .i64 n)] (· = .lit (.bool (isN n))) := by
  refine af_enter tok Tryz.func63 Tryz.ntmps63 Tryz.results63 rfl (by kernel_rfl) rfl rfl fun F hX => ?_
  cases d1 : decide (1 ≤ n)
  · repeat (first | refine gG ?_)
    first | refine zR ?_ | refine zQ ?_
    simp only [isN, d1]; rfl
  · repeat (first | refine gG ?_)
    first | refine zR ?_ | refine zQ ?_
    simp only [isN, d1]; rfl
theorem or_at {a b n : Int} {k : Nat} (h : [a, b][k]? = some n) (hz : ∀ x ∈ [a, b].take k, x = 0) (hn : ¬ n = 0) : orI a b = n := by
  unfold orI
  match k, h, hz with
  | 0, h, _ =>
    obtain rfl : a = n := by simpa using h
    rw [if_neg hn]
  | 1, h, hz =>
    obtain rfl : b = n := by simpa using h
    rw [if_pos (hz a (by simp))]
  | k + 2, h, _ => simp at h
set_option maxRecDepth 100000 in
set_option maxHeartbeats 4000000 in
theorem or_af (a b : Int) : AF Tryz.prog 64 [intRow [a, b]] (· = .lit (.int .i64 (orI a b))) := by
  refine af_enter tok Tryz.func64 Tryz.ntmps64 Tryz.results64 rfl (by kernel_rfl) rfl rfl fun F hX => ?_
  repeat (first | refine gG ?_ | refine zN1 (fun hlen => ?_) | refine zN2 (fun hlen => ?_))
  refine x_loop [2, 5, 8, 9, 10, 11, 12, 13, 14, 15, 16] (fun k : Nat => [(8, .c (.lit (.int .i64 k)))]) (fun _ => []) (fun k => k ≤ 2 ∧ ∀ n ∈ [a, b].take k, n = 0) (fun k => 2 - k) 0 ⟨by omega, by simp⟩ ⟨rfl, trivial⟩ rfl ?_
  rintro k ⟨hk, hz⟩
  repeat (first | refine gG ?_ | refine zN1 (fun hlen => ?_) | refine zN2 (fun hlen => ?_))
  refine x_cond rfl (fun h => ?_) (fun h => ?_)
  · have hk' : k < [a, b].length := by have := of_decide_eq_true h; simp only [List.length_cons, List.length_nil] at this ⊢; omega
    obtain ⟨n, hn⟩ := nth hk'
    have hsn := take_snoc (p := fun n : Int => n = 0) hn hz
    have hat := or_at hn hz
    simp only [List.length_cons, List.length_nil] at hk'
    repeat (first | refine gG ?_ | refine zN1 (fun hlen => ?_) | refine zN2 (fun hlen => ?_))
    refine zIx k hk' ?_
    repeat (first | refine gG ?_ | refine zN1 (fun hlen => ?_) | refine zN2 (fun hlen => ?_))
    refine zEl1 (int_at hn) ?_
    cases c : decide (n = 0)
    · repeat (first | refine gG ?_ | refine zN1 (fun hlen => ?_) | refine zN2 (fun hlen => ?_))
      first | refine zR ?_ | refine zQ ?_
      rw [hat (of_decide_eq_false c)]; rfl
    · repeat (first | refine gG ?_ | refine zN1 (fun hlen => ?_) | refine zN2 (fun hlen => ?_))
      exact ⟨k + 1, ⟨hk', hsn (of_decide_eq_true c)⟩, by omega, x_wkd 0 ⟨rfl, trivial⟩ rfl (by repeat (first | exact ag_refl | refine ag_upd rfl ?_ | refine ag_at rfl rfl ?_))⟩
  · have hk' : k = 2 := by have := of_decide_eq_false h; simp only [List.length_cons, List.length_nil] at this; omega
    subst hk'
    have h1 := hz a (by simp)
    have h2 := hz b (by simp)
    subst h1
    subst h2
    repeat (first | refine gG ?_ | refine zN1 (fun hlen => ?_) | refine zN2 (fun hlen => ?_))
    first | refine zR ?_ | refine zQ ?_
    rfl
theorem par_ref {l : List Par} {k : Nat} {b : Par} (h : l[k]? = some b) : (l.flatMap Par.ts)[k * 8 + 0]? = some (.lit (.int .i64 b.ref)) := by
  have := flat_get Par.ts 8 Par.ts_len h (j := 0) (by omega)
  simpa [Par.ts] using this
theorem way_frm {l : List Wy} {k : Nat} {b : Wy} (h : l[k]? = some b) : (l.flatMap Wy.ts)[k * 3 + 0]? = some (.lit (.int .i64 b.frm)) := by
  have := flat_get Wy.ts 3 Wy.ts_len h (j := 0) (by omega)
  simpa [Wy.ts] using this
theorem way_to {l : List Wy} {k : Nat} {b : Wy} (h : l[k]? = some b) : (l.flatMap Wy.ts)[k * 3 + 1]? = some (.lit (.int .i64 b.to)) := by
  have := flat_get Wy.ts 3 Wy.ts_len h (j := 1) (by omega)
  simpa [Wy.ts] using this
theorem badN_in {w : Wy} (h : w.badN = false) : (1 ≤ w.frm ∧ w.frm ≤ 8) ∧ (1 ≤ w.to ∧ w.to ≤ 8) := by
  simp only [Wy.badN, isN, Bool.or_eq_false_iff, Bool.not_eq_false', Bool.and_eq_true, decide_eq_true_eq] at h
  exact h.1
theorem Snp.check_2 {s : Snp} (h : (decide ((100 : Int) < (s.pars.length : Int)) || decide ((60 : Int) < (s.ways.length : Int))) = true) : s.check = 2 := by unfold Snp.check; rw [if_pos h]
theorem Snp.check_1 {s : Snp} (h : (decide ((100 : Int) < (s.pars.length : Int)) || decide ((60 : Int) < (s.ways.length : Int))) = false) (h2 : decide (s.time < 0) = true) : s.check = 1 := by unfold Snp.check; rw [if_neg (by rw [h]; decide), if_pos h2]
theorem Snp.check_p {s : Snp} (h : (decide ((100 : Int) < (s.pars.length : Int)) || decide ((60 : Int) < (s.ways.length : Int))) = false) (h2 : decide (s.time < 0) = false) (h3 : ¬ errs ((prevs s.pars).map parE) = 0) : s.check = errs ((prevs s.pars).map parE) := by unfold Snp.check; rw [if_neg (by rw [h]; decide), if_neg (by rw [h2]; decide), if_pos h3]
theorem Snp.check_w {s : Snp} (h : (decide ((100 : Int) < (s.pars.length : Int)) || decide ((60 : Int) < (s.ways.length : Int))) = false) (h2 : decide (s.time < 0) = false) (h3 : errs ((prevs s.pars).map parE) = 0) : s.check = errs ((prevs s.ways).map wayE) := by unfold Snp.check; rw [if_neg (by rw [h]; decide), if_neg (by rw [h2]; decide), if_neg (fun g => g h3)]
theorem wayE_1 {w : Wy} {o : Option Wy} (h : w.badN = true) : wayE (w, o) = 1 := by unfold wayE; rw [if_pos h]
theorem wayE_2 {w : Wy} {o : Option Wy} (h : w.badN = false) (h2 : decide ((100 : Int) < (w.lets.length : Int)) = true) : wayE (w, o) = 2 := by unfold wayE; rw [if_neg (by rw [h]; decide), if_pos h2]
theorem wayE_21 {w : Wy} {o : Option Wy} (h : w.badN = false) (h2 : decide ((100 : Int) < (w.lets.length : Int)) = false) (h3 : w.ordB o = true) : wayE (w, o) = 21 := by unfold wayE; rw [if_neg (by rw [h]; decide), if_neg (by rw [h2]; decide), if_pos h3]
theorem wayE_l {w : Wy} {o : Option Wy} (h : w.badN = false) (h2 : decide ((100 : Int) < (w.lets.length : Int)) = false) (h3 : w.ordB o = false) : wayE (w, o) = errs (w.lets.map Lt.check) := by unfold wayE; rw [if_neg (by rw [h]; decide), if_neg (by rw [h2]; decide), if_neg (by rw [h3]; decide)]
theorem parE_c {p : Par} {o : Option Par} (h : ¬ p.check = 0) : parE (p, o) = p.check := by
  cases o with
  | none => rfl
  | some q => simp only [parE]; rw [if_pos h]
theorem parE_21 {p q : Par} (h : p.check = 0) (h2 : decide (p.ref ≤ q.ref) = true) : parE (p, some q) = 21 := by simp only [parE]; rw [if_neg (fun g => g h), if_pos (of_decide_eq_true h2)]
theorem parE_0 {p q : Par} (h : p.check = 0) (h2 : decide (p.ref ≤ q.ref) = false) : parE (p, some q) = 0 := by simp only [parE]; rw [if_neg (fun g => g h), if_neg (of_decide_eq_false h2)]
set_option maxRecDepth 100000 in
set_option maxHeartbeats 4000000 in
theorem checkSnap_af (s : Snp) : AF Tryz.prog 39 [s.t] (· = .lit (.int .i64 s.check)) := by
  have k2 := @Snp.check_2 s
  have k1 := @Snp.check_1 s
  have kp := @Snp.check_p s
  have kw := @Snp.check_w s
  obtain ⟨tm, l, ws⟩ := s
  dsimp only at k2 k1 kp kw
  generalize (Snp.mk tm l ws).check = ck at *
  refine af_enter tok Tryz.func39 Tryz.ntmps39 Tryz.results39 rfl (by kernel_rfl) rfl rfl fun F hX => ?_
  cases d1 : decide ((100 : Int) < (l.length : Int))
  rotate_left
  · repeat (first | refine gG ?_ | refine zN1 (fun hlen => ?_) | refine zN2 (fun hlen => ?_) | refine zAl (fun _ => ?_) | refine zBf ?_)
    first | refine zR ?_ | refine zQ ?_
    rw [k2 (by rw [d1]; rfl)]; rfl
  cases d2 : decide ((60 : Int) < (ws.length : Int))
  rotate_left
  · repeat (first | refine gG ?_ | refine zN1 (fun hlen => ?_) | refine zN2 (fun hlen => ?_) | refine zAl (fun _ => ?_) | refine zBf ?_)
    first | refine zR ?_ | refine zQ ?_
    rw [k2 (by rw [d1, d2]; rfl)]; rfl
  have j1 : (decide ((100 : Int) < (l.length : Int)) || decide ((60 : Int) < (ws.length : Int))) = false := by rw [d1, d2]; rfl
  cases d3 : decide (tm < 0)
  rotate_left
  · repeat (first | refine gG ?_ | refine zN1 (fun hlen => ?_) | refine zN2 (fun hlen => ?_) | refine zAl (fun _ => ?_) | refine zBf ?_)
    first | refine zR ?_ | refine zQ ?_
    rw [k1 j1 d3]; rfl
  have hl100 : l.length ≤ 100 := by have := of_decide_eq_false d1; omega
  have hw60 : ws.length ≤ 60 := by have := of_decide_eq_false d2; omega
  have kp := kp j1 d3
  have kw := kw j1 d3
  clear k2 k1 j1
  repeat (first | refine gG ?_ | refine zN1 (fun hlen => ?_) | refine zN2 (fun hlen => ?_) | refine zAl (fun _ => ?_) | refine zBf ?_)
  refine x_loop [2, 3, 4, 5, 29, 30, 31, 32, 33, 34, 35, 36, 37, 38, 39, 40, 41, 42, 43, 44, 45, 46, 47, 48, 49, 50, 51, 52, 53] (fun k : Nat => [(29, .c (.lit (.int .i64 k)))]) (fun _ => []) (fun k => k ≤ l.length ∧ ∀ x ∈ (prevs l).take k, parE x = 0) (fun k => l.length - k) 0 ⟨Nat.zero_le _, by simp⟩ ⟨rfl, trivial⟩ rfl ?_
  rintro k ⟨hk, hz⟩
  repeat (first | refine gG ?_ | refine zN1 (fun hlen => ?_) | refine zN2 (fun hlen => ?_) | refine zAl (fun _ => ?_) | refine zBx (fun _ => ?_))
  refine x_cond rfl (fun h => ?_) (fun h => ?_)
  · have hk' : k < l.length := by simpa using h
    obtain ⟨a, ha⟩ := nth hk'
    rcases k with _ | k
    · skip
      have hs := checkParcel_af a
      have ho := prevs_at0 ha
      have he := errs_at parE hz ho
      have hsn := take_snoc (p := fun x => parE x = 0) ho hz
      have pc := fun o => @parE_c a o
      have p0 : parE (a, none) = a.check := rfl
      repeat (first | refine gG ?_ | refine zN1 (fun hlen => ?_) | refine zN2 (fun hlen => ?_) | refine zAl (fun _ => ?_) | refine zBx (fun _ => ?_))
      refine zIx (0) (hk') ?_
      repeat (first | refine gG ?_ | refine zN1 (fun hlen => ?_) | refine zN2 (fun hlen => ?_) | refine zAl (fun _ => ?_) | refine zBx (fun _ => ?_))
      refine zEl (flat_at Par.ts 8 Par.ts_len ha) (Par.ts_len a) ?_
      generalize hca : a.check = ca at *
      obtain ⟨rf, ⟨ac, st, ip⟩, bx, tk, wt, lk⟩ := a
      repeat (first | refine gG ?_ | refine zN1 (fun hlen => ?_) | refine zN2 (fun hlen => ?_) | refine zAl (fun _ => ?_) | refine zBx (fun _ => ?_))
      refine zCall (hs) ?_
      rintro _ rfl
      cases c1 : decide (ca = 0)
      · have c0 : ¬ ca = 0 := of_decide_eq_false c1
        have e := pc none c0
        repeat (first | refine gG ?_ | refine zN1 (fun hlen => ?_) | refine zN2 (fun hlen => ?_) | refine zAl (fun _ => ?_) | refine zBx (fun _ => ?_))
        first | refine zR ?_ | refine zQ ?_
        rw [kp (by rw [he (by omega)]; omega), he (by omega), e]; rfl
      · have c0 : ca = 0 := of_decide_eq_true c1
        repeat (first | refine gG ?_ | refine zN1 (fun hlen => ?_) | refine zN2 (fun hlen => ?_) | refine zAl (fun _ => ?_) | refine zBx (fun _ => ?_))
        refine ac_draw [1, 1, 1, 1, 1, 1, 1, 1, 1, 1, 1, 1, 1, 1] [0, 1, 2, 3, 4, 5, 6, 7, 8, 9, 10, 11, 12, 13] (by kernel_rfl) (by kernel_rfl) ?_
        refine gW ?_
        refine w_nil ?_
        repeat (first | refine gG ?_ | refine zN1 (fun hlen => ?_) | refine zN2 (fun hlen => ?_) | refine zAl (fun _ => ?_) | refine zBx (fun _ => ?_))
        exact ⟨1, ⟨hk', hsn (by omega)⟩, by omega, x_wkd 0 ⟨rfl, trivial⟩ rfl (by repeat (first | exact ag_refl | refine ag_upd rfl ?_ | refine ag_at rfl rfl ?_))⟩
    · have dk : decide ((0 : Int) < ((k + 1 : Nat) : Int)) = true := decide_eq_true (by omega)
      have hs := checkParcel_af a
      obtain ⟨b, hb⟩ : ∃ b, l[k]? = some b := ⟨_, List.getElem?_eq_getElem (by omega)⟩
      have ho := prevs_at ha hb
      have he := errs_at parE hz ho
      have hsn := take_snoc (p := fun x => parE x = 0) ho hz
      have pc := fun o => @parE_c a o
      have p21 := @parE_21 a b
      have p0 := @parE_0 a b
      repeat (first | refine gG ?_ | refine zN1 (fun hlen => ?_) | refine zN2 (fun hlen => ?_) | refine zAl (fun _ => ?_) | refine zBx (fun _ => ?_))
      refine zIx (k + 1) (hk') ?_
      repeat (first | refine gG ?_ | refine zN1 (fun hlen => ?_) | refine zN2 (fun hlen => ?_) | refine zAl (fun _ => ?_) | refine zBx (fun _ => ?_))
      refine zEl (flat_at Par.ts 8 Par.ts_len ha) (Par.ts_len a) ?_
      generalize hca : a.check = ca at *
      obtain ⟨rf, ⟨ac, st, ip⟩, bx, tk, wt, lk⟩ := a
      repeat (first | refine gG ?_ | refine zN1 (fun hlen => ?_) | refine zN2 (fun hlen => ?_) | refine zAl (fun _ => ?_) | refine zBx (fun _ => ?_))
      refine zCall (hs) ?_
      rintro _ rfl
      cases c1 : decide (ca = 0)
      · have c0 : ¬ ca = 0 := of_decide_eq_false c1
        have e := pc (some b) c0
        repeat (first | refine gG ?_ | refine zN1 (fun hlen => ?_) | refine zN2 (fun hlen => ?_) | refine zAl (fun _ => ?_) | refine zBx (fun _ => ?_))
        first | refine zR ?_ | refine zQ ?_
        rw [kp (by rw [he (by omega)]; omega), he (by omega), e]; rfl
      · have c0 : ca = 0 := of_decide_eq_true c1
        have p21 := p21 c0
        have p0 := p0 c0
        dsimp only at p21 p0
        generalize hbr : b.ref = br at *
        repeat (first | refine gG ?_ | refine zN1 (fun hlen => ?_) | refine zN2 (fun hlen => ?_) | refine zAl (fun _ => ?_) | refine zBx (fun _ => ?_))
        refine ac_draw [1, 1, 1, 1, 1, 1, 1, 1, 1, 1, 1, 1, 1, 1] [0, 1, 2, 3, 4, 5, 6, 7, 8, 9, 10, 11, 12, 13] (by kernel_rfl) (by kernel_rfl) ?_
        refine gW ?_
        try (first | (apply w_un; (focus exact rfl); (focus exact rfl); (focus exact rfl); (focus exact rfl)) | (apply w_no; (focus exact rfl); (focus exact rfl); (focus exact rfl); (focus exact rfl); focus (first | rfl | assumption | exact neg_t (by assumption) | exact neg_f (by assumption))) | (apply w_qg; (focus exact rfl); (focus exact rfl); (focus exact rfl); (focus exact rfl); (focus (first | rfl | assumption | exact neg_t (by assumption) | exact neg_f (by assumption))); (focus (intro _; (refine lo_sub rfl rfl (r := (k : Int)) (by rw [IntWalk.i64_in _ (by omega)]; omega) ?_); exact det_refl))))
        (first | (apply w_un; (focus exact rfl); (focus exact rfl); (focus exact rfl); (focus exact rfl)) | (apply w_no; (focus exact rfl); (focus exact rfl); (focus exact rfl); (focus exact rfl); focus (first | rfl | assumption | exact neg_t (by assumption) | exact neg_f (by assumption))) | (apply w_qg; (focus exact rfl); (focus exact rfl); (focus exact rfl); (focus exact rfl); (focus (first | rfl | assumption | exact neg_t (by assumption) | exact neg_f (by assumption))); (focus (intro _; (refine zIx k (show k < l.length by omega) ?_); exact det_refl))))
        try refine gW ?_
        try (first | (apply w_un; (focus exact rfl); (focus exact rfl); (focus exact rfl); (focus exact rfl)) | (apply w_no; (focus exact rfl); (focus exact rfl); (focus exact rfl); (focus exact rfl); focus (first | rfl | assumption | exact neg_t (by assumption) | exact neg_f (by assumption))) | (apply w_qg; (focus exact rfl); (focus exact rfl); (focus exact rfl); (focus exact rfl); (focus (first | rfl | assumption | exact neg_t (by assumption) | exact neg_f (by assumption))); (focus (intro _; (refine zEl1 (by rw [par_ref hb, hbr]) ?_); exact det_refl))))
        try refine gW ?_
        refine w_nil ?_
        cases c2 : decide (rf ≤ br)
        · repeat (first | refine gG ?_ | refine zN1 (fun hlen => ?_) | refine zN2 (fun hlen => ?_) | refine zAl (fun _ => ?_) | refine zBx (fun _ => ?_))
          exact ⟨k + 1 + 1, ⟨hk', hsn (p0 c2)⟩, by omega, x_wkd 0 ⟨rfl, trivial⟩ rfl (by repeat (first | exact ag_refl | refine ag_upd rfl ?_ | refine ag_at rfl rfl ?_))⟩
        · have e := p21 c2
          repeat (first | refine gG ?_ | refine zN1 (fun hlen => ?_) | refine zN2 (fun hlen => ?_) | refine zAl (fun _ => ?_) | refine zBx (fun _ => ?_))
          first | refine zR ?_ | refine zQ ?_
          rw [kp (by rw [he (by omega)]; omega), he (by omega), e]; rfl
  have hk' : k = l.length := by have : ¬ k < l.length := by simpa using h
                                omega
  subst hk'
  rw [← prevs_len l, List.take_length] at hz
  have kw := kw (errs_all parE hz)
  clear kp hz hk h
  repeat (first | refine gG ?_ | refine zN1 (fun hlen => ?_) | refine zN2 (fun hlen => ?_) | refine zAl (fun _ => ?_) | refine zBx (fun _ => ?_))
  refine x_loop [2, 6, 7, 9, 10, 57, 58, 59, 60, 61, 62, 63, 64, 65, 66, 67, 68, 69, 70, 71, 72, 73, 74, 75, 76, 77, 78, 79, 80, 81, 82, 83, 84, 85, 86, 87, 88, 89, 90, 91, 92, 93, 94, 95, 96, 97, 98, 99, 100, 101, 102, 103, 104, 105, 106, 107, 108, 109, 110, 111, 112, 113, 114, 115, 116, 117, 118, 119, 120, 121, 122, 123, 124, 125, 126] (fun k : Nat => [(57, .c (.lit (.int .i64 k)))]) (fun _ => []) (fun k => k ≤ ws.length ∧ ∀ x ∈ (prevs ws).take k, wayE x = 0) (fun k => ws.length - k) 0 ⟨Nat.zero_le _, by simp⟩ ⟨rfl, trivial⟩ rfl ?_
  rintro k ⟨hk, hz⟩
  repeat (first | refine gG ?_ | refine zN1 (fun hlen => ?_) | refine zN2 (fun hlen => ?_) | refine zAl (fun _ => ?_) | refine zBx (fun _ => ?_))
  refine x_cond rfl (fun h => ?_) (fun h => ?_)
  rotate_left
  · have hk' : k = ws.length := by have : ¬ k < ws.length := by simpa using h
                                   omega
    subst hk'
    rw [← prevs_len ws, List.take_length] at hz
    rw [errs_all wayE hz] at kw
    repeat (first | refine gG ?_ | refine zN1 (fun hlen => ?_) | refine zN2 (fun hlen => ?_) | refine zAl (fun _ => ?_) | refine zBx (fun _ => ?_))
    first | refine zR ?_ | refine zQ ?_
    rw [kw]; rfl
  have hk' : k < ws.length := by simpa using h
  obtain ⟨a, ha⟩ := nth hk'
  obtain ⟨o, ho, hord⟩ : ∃ o, (prevs ws)[k]? = some (a, o) ∧ ((k = 0 ∧ o = none) ∨ ∃ j q, k = j + 1 ∧ ws[j]? = some q ∧ o = some q ∧ q.badN = false) := by
    rcases k with _ | k
    · exact ⟨none, prevs_at0 ha, .inl ⟨rfl, rfl⟩⟩
    · obtain ⟨q, hq⟩ : ∃ q, ws[k]? = some q := ⟨_, List.getElem?_eq_getElem (by omega)⟩
      refine ⟨some q, prevs_at ha hq, .inr ⟨k, q, rfl, hq, rfl, ?_⟩⟩
      have hqo : ∃ o', (prevs ws)[k]? = some (q, o') := by
        rcases k with _ | k
        · exact ⟨none, prevs_at0 hq⟩
        · obtain ⟨q', hq'⟩ : ∃ q, ws[k]? = some q := ⟨_, List.getElem?_eq_getElem (by omega)⟩
          exact ⟨some q', prevs_at hq hq'⟩
      obtain ⟨o', ho'⟩ := hqo
      have hm : (q, o') ∈ (prevs ws).take (k + 1) := by
        have : ((prevs ws).take (k + 1))[k]? = some (q, o') := by rw [List.getElem?_take, if_pos (by omega)]; exact ho'
        exact List.mem_of_getElem? this
      exact (wayE_ok (hz _ hm)).1
  have he := errs_at wayE hz ho
  have hsn := take_snoc (p := fun x => wayE x = 0) ho hz
  obtain ⟨we, hWe⟩ : ∃ we, wayE (a, o) = we := ⟨_, rfl⟩
  have w1 : ((!isN a.frm || !isN a.to) || decide (a.frm = a.to)) = true → we = 1 := fun h => hWe ▸ wayE_1 h
  have w2 : ((!isN a.frm || !isN a.to) || decide (a.frm = a.to)) = false → decide ((100 : Int) < (a.lets.length : Int)) = true → we = 2 := fun h h2 => hWe ▸ wayE_2 h h2
  have w21 : ((!isN a.frm || !isN a.to) || decide (a.frm = a.to)) = false → decide ((100 : Int) < (a.lets.length : Int)) = false → ordM a.frm a.to o = true → we = 21 := fun h h2 h3 => hWe ▸ wayE_21 h h2 h3
  have wl : ((!isN a.frm || !isN a.to) || decide (a.frm = a.to)) = false → decide ((100 : Int) < (a.lets.length : Int)) = false → ordM a.frm a.to o = false → we = errs (a.lets.map Lt.check) := fun h h2 h3 => hWe ▸ wayE_l h h2 h3
  have hbi : ((!isN a.frm || !isN a.to) || decide (a.frm = a.to)) = false → (1 ≤ a.frm ∧ a.frm ≤ 8) ∧ (1 ≤ a.to ∧ a.to ≤ 8) := fun h => badN_in h
  rw [hWe] at he hsn
  repeat (first | refine gG ?_ | refine zN1 (fun hlen => ?_) | refine zN2 (fun hlen => ?_) | refine zAl (fun _ => ?_) | refine zBx (fun _ => ?_))
  refine zIx (k) (hk') ?_
  repeat (first | refine gG ?_ | refine zN1 (fun hlen => ?_) | refine zN2 (fun hlen => ?_) | refine zAl (fun _ => ?_) | refine zBx (fun _ => ?_))
  refine zEl (flat_at Wy.ts 3 Wy.ts_len ha) (Wy.ts_len a) ?_
  obtain ⟨fr, to, ls⟩ := a
  dsimp only at w1 w2 w21 wl hbi
  have hi1 := isNode_af fr
  have hi2 := isNode_af to
  generalize hn1 : isN fr = n1 at *
  generalize hn2 : isN to = n2 at *
  cases n1
  · have w1 := w1 (by simp)
    repeat (first | refine gG ?_ | refine zN1 (fun hlen => ?_) | refine zN2 (fun hlen => ?_) | refine zAl (fun _ => ?_) | refine zBx (fun _ => ?_))
    refine zCall (hi1) ?_
    rintro _ rfl
    repeat (first | refine gG ?_ | refine zN1 (fun hlen => ?_) | refine zN2 (fun hlen => ?_) | refine zAl (fun _ => ?_) | refine zBx (fun _ => ?_))
    first | refine zR ?_ | refine zQ ?_
    rw [kw, he (by omega), w1]; rfl
  cases n2
  · have w1 := w1 (by simp)
    repeat (first | refine gG ?_ | refine zN1 (fun hlen => ?_) | refine zN2 (fun hlen => ?_) | refine zAl (fun _ => ?_) | refine zBx (fun _ => ?_))
    refine zCall (hi1) ?_
    rintro _ rfl
    repeat (first | refine gG ?_ | refine zN1 (fun hlen => ?_) | refine zN2 (fun hlen => ?_) | refine zAl (fun _ => ?_) | refine zBx (fun _ => ?_))
    refine zCall (hi2) ?_
    rintro _ rfl
    repeat (first | refine gG ?_ | refine zN1 (fun hlen => ?_) | refine zN2 (fun hlen => ?_) | refine zAl (fun _ => ?_) | refine zBx (fun _ => ?_))
    first | refine zR ?_ | refine zQ ?_
    rw [kw, he (by omega), w1]; rfl
  cases n3 : decide (fr = to)
  rotate_left
  · have w1 := w1 (by rw [n3]; rfl)
    repeat (first | refine gG ?_ | refine zN1 (fun hlen => ?_) | refine zN2 (fun hlen => ?_) | refine zAl (fun _ => ?_) | refine zBx (fun _ => ?_))
    refine zCall (hi1) ?_
    rintro _ rfl
    repeat (first | refine gG ?_ | refine zN1 (fun hlen => ?_) | refine zN2 (fun hlen => ?_) | refine zAl (fun _ => ?_) | refine zBx (fun _ => ?_))
    refine zCall (hi2) ?_
    rintro _ rfl
    repeat (first | refine gG ?_ | refine zN1 (fun hlen => ?_) | refine zN2 (fun hlen => ?_) | refine zAl (fun _ => ?_) | refine zBx (fun _ => ?_))
    first | refine zR ?_ | refine zQ ?_
    rw [kw, he (by omega), w1]; rfl
  have hb0 : ((!true || !true) || decide (fr = to)) = false := by rw [n3]; rfl
  have w2 := w2 hb0
  have w21 := w21 hb0
  have wl := wl hb0
  obtain ⟨hb1, hb2⟩ := hbi hb0
  cases d4 : decide ((100 : Int) < (ls.length : Int))
  rotate_left
  · have w2 := w2 d4
    repeat (first | refine gG ?_ | refine zN1 (fun hlen => ?_) | refine zN2 (fun hlen => ?_) | refine zAl (fun _ => ?_) | refine zBx (fun _ => ?_))
    refine zCall (hi1) ?_
    rintro _ rfl
    repeat (first | refine gG ?_ | refine zN1 (fun hlen => ?_) | refine zN2 (fun hlen => ?_) | refine zAl (fun _ => ?_) | refine zBx (fun _ => ?_))
    refine zCall (hi2) ?_
    rintro _ rfl
    repeat (first | refine gG ?_ | refine zN1 (fun hlen => ?_) | refine zN2 (fun hlen => ?_) | refine zAl (fun _ => ?_) | refine zBx (fun _ => ?_))
    first | refine zR ?_ | refine zQ ?_
    rw [kw, he (by omega), w2]; rfl
  have w21 := w21 d4
  have wl := wl d4
  repeat (first | refine gG ?_ | refine zN1 (fun hlen => ?_) | refine zN2 (fun hlen => ?_) | refine zAl (fun _ => ?_) | refine zBx (fun _ => ?_))
  refine zCall (hi1) ?_
  rintro _ rfl
  repeat (first | refine gG ?_ | refine zN1 (fun hlen => ?_) | refine zN2 (fun hlen => ?_) | refine zAl (fun _ => ?_) | refine zBx (fun _ => ?_))
  refine zCall (hi2) ?_
  rintro _ rfl
  repeat (first | refine gG ?_ | refine zN1 (fun hlen => ?_) | refine zN2 (fun hlen => ?_) | refine zAl (fun _ => ?_) | refine zBx (fun _ => ?_))
  rename_i bw
  refine x_join [86, 87, 88, 89, 90, 91, 92, 93, 94, 95, 96, 97, 98, 99, 100, 101, 102, 103, 104, 105, 106, 107, 108, 109, 110, 111, 112, 85] (fun y : {c : Bool // ordM fr to o = c} => [(85, .c (.lit (.bool y.1)))]) (fun _ => [.box bw 57 [.c (.lit (.int .i64 fr)), .c (.lit (.int .i64 to)), .c (letRow ls)]]) ?_ ?_
  rotate_left
  · rcases hord with ⟨rfl, rfl⟩ | ⟨j, q, rfl, hq, rfl, hqb⟩
    · skip
      refine ac_draw [1, 1, 1, 1, 1, 1, 1, 1, 1, 1, 1, 1, 1, 1, 1, 1, 1, 1, 1, 1, 1, 1, 1, 1, 1, 1, 1, 1] [0, 1, 2, 3, 4, 5, 6, 7, 8, 9, 10, 11, 12, 13, 14, 15, 16, 17, 18, 19, 20, 21, 22, 23, 24, 25, 26, 27] (by kernel_rfl) (by kernel_rfl) ?_
      refine gW ?_
      refine w_nil ?_
      exact ⟨⟨false, rfl⟩, x_wkd 1 ⟨rfl, trivial⟩ rfl (by repeat (first | exact ag_refl | refine ag_upd rfl ?_ | refine ag_at rfl rfl ?_))⟩
    · have dk : decide ((0 : Int) < ((j + 1 : Nat) : Int)) = true := decide_eq_true (by omega)
      obtain ⟨hq1, hq2⟩ := badN_in hqb
      have hq3 := way_frm hq
      have hq4 := way_to hq
      simp only [ordM]
      generalize q.frm = fq at *
      generalize q.to = tq at *
      have hor := or_af (fr - fq) (to - tq)
      generalize hoi : orI (fr - fq) (to - tq) = oi at *
      refine ac_draw [1, 1, 1, 1, 1, 1, 1, 1, 1, 1, 1, 1, 1, 1, 1, 1, 1, 1, 1, 1, 1, 1, 1, 1, 1, 1, 1, 1] [0, 1, 2, 3, 4, 5, 6, 7, 8, 9, 10, 11, 12, 13, 14, 15, 16, 17, 18, 19, 20, 21, 22, 23, 24, 25, 26, 27] (by kernel_rfl) (by kernel_rfl) ?_
      refine gW ?_
      try (first | (apply w_un; (focus exact rfl); (focus exact rfl); (focus exact rfl); (focus exact rfl)) | (apply w_no; (focus exact rfl); (focus exact rfl); (focus exact rfl); (focus exact rfl); focus (first | rfl | assumption | exact neg_t (by assumption) | exact neg_f (by assumption))) | (apply w_qg; (focus exact rfl); (focus exact rfl); (focus exact rfl); (focus exact rfl); (focus (first | rfl | assumption | exact neg_t (by assumption) | exact neg_f (by assumption))); (focus (intro _; (refine lo_sub rfl rfl (r := (j : Int)) (by rw [IntWalk.i64_in _ (by omega)]; omega) ?_); exact det_refl))))
      (first | (apply w_un; (focus exact rfl); (focus exact rfl); (focus exact rfl); (focus exact rfl)) | (apply w_no; (focus exact rfl); (focus exact rfl); (focus exact rfl); (focus exact rfl); focus (first | rfl | assumption | exact neg_t (by assumption) | exact neg_f (by assumption))) | (apply w_qg; (focus exact rfl); (focus exact rfl); (focus exact rfl); (focus exact rfl); (focus (first | rfl | assumption | exact neg_t (by assumption) | exact neg_f (by assumption))); (focus (intro _; (refine zIx j (show j < ws.length by omega) ?_); exact det_refl))))
      try refine gW ?_
      try (first | (apply w_un; (focus exact rfl); (focus exact rfl); (focus exact rfl); (focus exact rfl)) | (apply w_no; (focus exact rfl); (focus exact rfl); (focus exact rfl); (focus exact rfl); focus (first | rfl | assumption | exact neg_t (by assumption) | exact neg_f (by assumption))) | (apply w_qg; (focus exact rfl); (focus exact rfl); (focus exact rfl); (focus exact rfl); (focus (first | rfl | assumption | exact neg_t (by assumption) | exact neg_f (by assumption))); (focus (intro _; (refine zEl1 hq3 ?_); exact det_refl))))
      (first | (apply w_un; (focus exact rfl); (focus exact rfl); (focus exact rfl); (focus exact rfl)) | (apply w_no; (focus exact rfl); (focus exact rfl); (focus exact rfl); (focus exact rfl); focus (first | rfl | assumption | exact neg_t (by assumption) | exact neg_f (by assumption))) | (apply w_qg; (focus exact rfl); (focus exact rfl); (focus exact rfl); (focus exact rfl); (focus (first | rfl | assumption | exact neg_t (by assumption) | exact neg_f (by assumption))); (focus (intro _; (refine lo_sub rfl rfl (r := fr - fq) (by rw [IntWalk.i64_in _ (by omega)]) ?_); exact det_refl))))
      try refine gW ?_
      try (first | (apply w_un; (focus exact rfl); (focus exact rfl); (focus exact rfl); (focus exact rfl)) | (apply w_no; (focus exact rfl); (focus exact rfl); (focus exact rfl); (focus exact rfl); focus (first | rfl | assumption | exact neg_t (by assumption) | exact neg_f (by assumption))) | (apply w_qg; (focus exact rfl); (focus exact rfl); (focus exact rfl); (focus exact rfl); (focus (first | rfl | assumption | exact neg_t (by assumption) | exact neg_f (by assumption))); (focus (intro _; (refine lo_sub rfl rfl (r := (j : Int)) (by rw [IntWalk.i64_in _ (by omega)]; omega) ?_); exact det_refl))))
      (first | (apply w_un; (focus exact rfl); (focus exact rfl); (focus exact rfl); (focus exact rfl)) | (apply w_no; (focus exact rfl); (focus exact rfl); (focus exact rfl); (focus exact rfl); focus (first | rfl | assumption | exact neg_t (by assumption) | exact neg_f (by assumption))) | (apply w_qg; (focus exact rfl); (focus exact rfl); (focus exact rfl); (focus exact rfl); (focus (first | rfl | assumption | exact neg_t (by assumption) | exact neg_f (by assumption))); (focus (intro _; (refine zIx j (show j < ws.length by omega) ?_); exact det_refl))))
      try refine gW ?_
      try (first | (apply w_un; (focus exact rfl); (focus exact rfl); (focus exact rfl); (focus exact rfl)) | (apply w_no; (focus exact rfl); (focus exact rfl); (focus exact rfl); (focus exact rfl); focus (first | rfl | assumption | exact neg_t (by assumption) | exact neg_f (by assumption))) | (apply w_qg; (focus exact rfl); (focus exact rfl); (focus exact rfl); (focus exact rfl); (focus (first | rfl | assumption | exact neg_t (by assumption) | exact neg_f (by assumption))); (focus (intro _; (refine zEl1 hq4 ?_); exact det_refl))))
      (first | (apply w_un; (focus exact rfl); (focus exact rfl); (focus exact rfl); (focus exact rfl)) | (apply w_no; (focus exact rfl); (focus exact rfl); (focus exact rfl); (focus exact rfl); focus (first | rfl | assumption | exact neg_t (by assumption) | exact neg_f (by assumption))) | (apply w_qg; (focus exact rfl); (focus exact rfl); (focus exact rfl); (focus exact rfl); (focus (first | rfl | assumption | exact neg_t (by assumption) | exact neg_f (by assumption))); (focus (intro _; (refine lo_sub rfl rfl (r := to - tq) (by rw [IntWalk.i64_in _ (by omega)]) ?_); exact det_refl))))
      try refine gW ?_
      try (first | (apply w_un; (focus exact rfl); (focus exact rfl); (focus exact rfl); (focus exact rfl)) | (apply w_no; (focus exact rfl); (focus exact rfl); (focus exact rfl); (focus exact rfl); focus (first | rfl | assumption | exact neg_t (by assumption) | exact neg_f (by assumption))) | (apply w_qg; (focus exact rfl); (focus exact rfl); (focus exact rfl); (focus exact rfl); (focus (first | rfl | assumption | exact neg_t (by assumption) | exact neg_f (by assumption))); (focus (intro _; (refine lo_call hor rfl (by repeat (first | exact rzs_nil | apply rzs_cons | exact rz_c | exact rz_nil rfl | apply rz_agg | exact rz_own rfl | apply rz_fn | exact rz_ptr rfl | apply rz_tup)) ?_; rintro _ rfl); exact det_refl))))
      try refine gW ?_
      refine w_nil ?_
      exact ⟨⟨decide (oi ≤ 0), rfl⟩, x_wkd 1 ⟨rfl, trivial⟩ rfl (by repeat (first | exact ag_refl | refine ag_upd rfl ?_ | refine ag_at rfl rfl ?_))⟩
  rintro ⟨c, hc⟩
  dsimp only
  cases c
  rotate_left
  · have w21 := w21 hc
    repeat (first | refine gG ?_ | refine zN1 (fun hlen => ?_) | refine zN2 (fun hlen => ?_) | refine zAl (fun _ => ?_) | refine zBx (fun _ => ?_))
    first | refine zR ?_ | refine zQ ?_
    rw [kw, he (by omega), w21]; rfl
  have wl := wl hc
  repeat (first | refine gG ?_ | refine zN1 (fun hlen => ?_) | refine zN2 (fun hlen => ?_) | refine zAl (fun _ => ?_) | refine zBx (fun _ => ?_))
  refine x_loop [2, 9, 10, 116, 117, 118, 119, 120, 121, 122, 123, 124, 125] (fun j : Nat => [(116, .c (.lit (.int .i64 j)))]) (fun _ => [.box bw 57 [.c (.lit (.int .i64 fr)), .c (.lit (.int .i64 to)), .c (letRow ls)]]) (fun j => j ≤ ls.length ∧ ∀ x ∈ ls.take j, Lt.check x = 0) (fun j => ls.length - j) 0 ⟨Nat.zero_le _, by simp⟩ ⟨rfl, trivial⟩ rfl ?_
  rintro j ⟨hj, hz3⟩
  repeat (first | refine gG ?_ | refine zN1 (fun hlen => ?_) | refine zN2 (fun hlen => ?_) | refine zAl (fun _ => ?_) | refine zBx (fun _ => ?_))
  refine x_cond rfl (fun h => ?_) (fun h => ?_)
  · have hj' : j < ls.length := by simpa using h
    obtain ⟨x, hx⟩ := nth hj'
    have hs := checkLetter_af x
    have he3 := errs_at Lt.check hz3 hx
    have hsn3 := take_snoc (p := fun x => Lt.check x = 0) hx hz3
    repeat (first | refine gG ?_ | refine zN1 (fun hlen => ?_) | refine zN2 (fun hlen => ?_) | refine zAl (fun _ => ?_) | refine zBx (fun _ => ?_))
    refine zIx (j) (hj') ?_
    repeat (first | refine gG ?_ | refine zN1 (fun hlen => ?_) | refine zN2 (fun hlen => ?_) | refine zAl (fun _ => ?_) | refine zBx (fun _ => ?_))
    refine zEl (flat_at Lt.ts 9 Lt.ts_len hx) (Lt.ts_len x) ?_
    generalize hca : x.check = ca at *
    obtain ⟨ka, fa, ta, na, sa, ⟨kv, nv, tv, lv⟩⟩ := x
    repeat (first | refine gG ?_ | refine zN1 (fun hlen => ?_) | refine zN2 (fun hlen => ?_) | refine zAl (fun _ => ?_) | refine zBx (fun _ => ?_))
    refine zCall (hs) ?_
    rintro _ rfl
    cases c2 : decide (ca = 0)
    · have c0 : ¬ ca = 0 := of_decide_eq_false c2
      have e3 := he3 c0
      repeat (first | refine gG ?_ | refine zN1 (fun hlen => ?_) | refine zN2 (fun hlen => ?_) | refine zAl (fun _ => ?_) | refine zBx (fun _ => ?_))
      first | refine zR ?_ | refine zQ ?_
      rw [kw, he (by omega), wl, e3]; rfl
    · have c0 : ca = 0 := of_decide_eq_true c2
      repeat (first | refine gG ?_ | refine zN1 (fun hlen => ?_) | refine zN2 (fun hlen => ?_) | refine zAl (fun _ => ?_) | refine zBx (fun _ => ?_))
      exact ⟨j + 1, ⟨hj', hsn3 c0⟩, by omega, x_wkd 1 ⟨rfl, trivial⟩ rfl (by repeat (first | exact ag_refl | refine ag_upd rfl ?_ | refine ag_at rfl rfl ?_))⟩
  · have hj' : j = ls.length := by have : ¬ j < ls.length := by simpa using h
                                   omega
    subst hj'
    rw [List.take_length] at hz3
    rw [errs_all Lt.check hz3] at wl
    repeat (first | refine gG ?_ | refine zN1 (fun hlen => ?_) | refine zN2 (fun hlen => ?_) | refine zAl (fun _ => ?_) | refine zBx (fun _ => ?_))
    exact ⟨k + 1, ⟨hk', hsn wl⟩, by omega, x_wkd 0 ⟨rfl, trivial⟩ rfl (by repeat (first | exact ag_refl | refine ag_upd rfl ?_ | refine ag_at rfl rfl ?_))⟩
end Go.Proofs.YthgackidonocpaaGreat
