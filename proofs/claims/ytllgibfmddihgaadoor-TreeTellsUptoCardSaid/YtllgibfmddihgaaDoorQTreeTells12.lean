/-
  Texts of this proof, part 12: Tno Tnp Ab33 Tml.
-/
import Derived.Test.YtllgibfmddihgaaDoorQTreeTells11
import Derived.Lib.AppendStr
namespace Go.Proofs.YtllgibfmddihgaaDoor
open Go.RowKit
/-- the place of a name among names -/
def posOf (s : ByteArray) (l : List ByteArray) : Int := idxI (fun x => decide (s = x)) l
set_option maxRecDepth 100000 in
set_option maxHeartbeats 1000000 in
theorem idxStr_af (l : List ByteArray) (s : ByteArray) : AF Tryd.prog 126 [strRow l, .lit (.string s)] (· = .lit (.int .i64 (posOf s l))) := by
  refine af_enter tok Tryd.func126 Tryd.ntmps126 Tryd.results126 rfl (by kernel_rfl) rfl rfl fun F hX => ?_
  repeat (first | refine gG ?_ | refine zN1 (fun hlen => ?_) | refine zN2 (fun hlen => ?_))
  refine x_loop [4, 5, 8, 9, 10, 11, 12, 13, 14, 15, 16, 17, 18] (fun k : Nat => [(8, .c (.lit (.int .i64 k)))]) (fun _ => []) (fun k => k ≤ l.length ∧ idxAt (fun x => decide (s = x)) l k) (fun k => l.length - k) 0 ⟨Nat.zero_le _, idxAt_zero _ l⟩ ⟨rfl, trivial⟩ rfl fun k hk => ?_
  repeat (first | refine gG ?_ | refine zN1 (fun hlen => ?_) | refine zN2 (fun hlen => ?_))
  refine x_cond rfl (fun h => ?_) (fun h => ?_)
  · have hk' : k < l.length := by simpa using h
    obtain ⟨a, ha⟩ := nth hk'
    have hat := str_at ha
    rw [← Nat.mul_one k] at hat
    repeat (first | refine gG ?_ | refine zN1 (fun hlen => ?_) | refine zN2 (fun hlen => ?_))
    refine zIx k hk' ?_
    repeat (first | refine gG ?_ | refine zN1 (fun hlen => ?_) | refine zN2 (fun hlen => ?_))
    refine zEl1 hat ?_
    cases hp : decide (s = a)
    · repeat (first | refine gG ?_ | refine zN1 (fun hlen => ?_) | refine zN2 (fun hlen => ?_))
      exact ⟨k + 1, ⟨hk', idxAt_no hk.2 ha hp⟩, by omega, x_wkd 0 ⟨rfl, trivial⟩ rfl (by repeat (first | exact ag_refl | refine ag_upd rfl ?_ | refine ag_at rfl rfl ?_))⟩
    · repeat (first | refine gG ?_ | refine zN1 (fun hlen => ?_) | refine zN2 (fun hlen => ?_))
      first | refine zR ?_ | refine zQ ?_
      rw [posOf, idxAt_yes hk.2 ha hp]; rfl
  · have hk' : k = l.length := by have : ¬ k < l.length := by simpa using h
                                  omega
    subst hk'
    repeat (first | refine gG ?_ | refine zN1 (fun hlen => ?_) | refine zN2 (fun hlen => ?_))
    first | refine zR ?_ | refine zQ ?_
    rw [posOf, idxAt_end hk.2]; rfl
theorem has_pos (s : ByteArray) (l : List ByteArray) : decide (0 ≤ posOf s l) = hasS l s := by
  rw [posOf, idxI_any, hasS]
  congr 1
  funext x
  exact decide_eq_decide.2 eq_comm
set_option maxRecDepth 100000 in
set_option maxHeartbeats 1000000 in
theorem contains_af (l : List ByteArray) (s : ByteArray) : AF Tryd.prog 38 [strRow l, .lit (.string s)] (· = .lit (.bool (hasS l s))) := by
  have hc := idxStr_af l s
  have hh := has_pos s l
  generalize posOf s l = p at *
  refine af_enter tok Tryd.func38 Tryd.ntmps38 Tryd.results38 rfl (by kernel_rfl) rfl rfl fun F hX => ?_
  repeat (first | refine gG ?_)
  refine zCall (hc) ?_
  rintro _ rfl
  repeat (first | refine gG ?_)
  first | refine zR ?_ | refine zQ ?_
  rw [← hh]
  rfl
abbrev Sd := Ex × List ByteArray
def Sd.ts (p : Sd) : List T := p.1.ts ++ [strRow p.2]
theorem Sd.ts_len (p : Sd) : (Sd.ts p).length = 9 := by rw [Sd.ts, List.length_append, Ex.ts_len]; rfl
def Sd.row (l : List Sd) : T := .row l.length 9 (l.flatMap Sd.ts)
theorem Sd.at {l : List Sd} {k : Nat} {p : Sd} (h : l[k]? = some p) : ((l.flatMap Sd.ts).drop (k * 9)).take 9 = Sd.ts p := flat_at Sd.ts 9 Sd.ts_len h
def sco (k : Int) (t : ByteArray) (ns : List ByteArray) : Nat → List Ex → List Sd
  | _, [] => []
  | i, a :: r => (a, inner k t ns i) :: sco k t ns (i + 1) r
def plainP (a : Ex) : Sd := (a, [])
def armP (r : Ar) : Sd := (r.body, r.pat.binds)
def counted (k n : Int) (t : ByteArray) (ns : List ByteArray) (l : List Ex) (rs : List Ar) : List Sd :=
  bif decide ((l.length : Int) < needs k n l.length) then l.map plainP else sco k t ns 0 (l.take (needs k n l.length).toNat) ++ (bif decide (k = 13) || decide (k = 18) then rs.map armP else [])
def freeP (p : Sd) : List ByteArray × List ByteArray := (p.2, p.1.free)
theorem sco_free (k : Int) (t : ByteArray) (ns : List ByteArray) : ∀ (l : List Ex) (i : Nat), (sco k t ns i l).map freeP = scopes k t ns i (l.map Ex.free)
  | [], _ => rfl
  | a :: l, i => by rw [sco, List.map_cons, sco_free k t ns l, List.map_cons, scopes]; rfl
theorem sco_at (k : Int) (t : ByteArray) (ns : List ByteArray) : ∀ (l : List Ex) (i j : Nat) {a : Ex}, l[j]? = some a → (sco k t ns i l)[j]? = some (a, inner k t ns (i + j))
  | [], _, _, _, h => by simp at h
  | x :: l, i, 0, a, h => by
    obtain rfl : x = a := by simpa using h
    rfl
  | x :: l, i, j + 1, a, h => by
    rw [sco, List.getElem?_cons_succ, sco_at k t ns l (i + 1) j (by simpa using h)]
    rw [show i + 1 + j = i + (j + 1) by omega]
theorem sco_len (k : Int) (t : ByteArray) (ns : List ByteArray) : ∀ (l : List Ex) (i : Nat), (sco k t ns i l).length = l.length
  | [], _ => rfl
  | x :: l, i => by rw [sco, List.length_cons, sco_len k t ns l, List.length_cons]
theorem sco_mem (k : Int) (t : ByteArray) (ns : List ByteArray) : ∀ (l : List Ex) (i : Nat) {p : Sd}, p ∈ sco k t ns i l → p.1 ∈ l
  | [], _, _, h => by simp [sco] at h
  | x :: l, i, p, h => by
    rw [sco] at h
    rcases List.mem_cons.1 h with rfl | h
    · simp
    · exact List.mem_cons_of_mem _ (sco_mem k t ns l (i + 1) h)
theorem counted_free (k n : Int) (t : ByteArray) (ns : List ByteArray) (l : List Ex) (rs : List Ar) : (counted k n t ns l rs).map freeP = partsOf k n t ns (l.map Ex.free) (rs.map Ar.free) := by
  unfold counted partsOf
  rw [List.length_map]
  cases decide ((l.length : Int) < needs k n l.length) with
  | true => simp only [cond]; rw [List.map_map, List.map_map]; rfl
  | false =>
    simp only [cond]
    rw [List.map_append, sco_free, List.map_take]
    congr 1
    cases decide (k = 13) || decide (k = 18) with
    | true => simp only []; rw [List.map_map]; rfl
    | false => rfl
theorem counted_mem {k n : Int} {t : ByteArray} {ns : List ByteArray} {l : List Ex} {rs : List Ar} {p : Sd} (h : p ∈ counted k n t ns l rs) : p.1 ∈ l ∨ ∃ r ∈ rs, p.1 = r.body := by
  unfold counted at h
  cases hd : decide ((l.length : Int) < needs k n l.length) with
  | true =>
    rw [hd] at h
    obtain ⟨a, ha, rfl⟩ := List.mem_map.1 h
    exact .inl ha
  | false =>
    rw [hd] at h
    rcases List.mem_append.1 h with h | h
    · exact .inl (List.mem_of_mem_take (sco_mem k t ns _ 0 h))
    · cases hk : decide (k = 13) || decide (k = 18) with
      | true =>
        rw [hk] at h
        obtain ⟨a, ha, rfl⟩ := List.mem_map.1 h
        exact .inr ⟨a, ha, rfl⟩
      | false => rw [hk] at h; simp at h
theorem sd_snoc {C : List Sd} {j : Nat} {p : Sd} (h : C[j]? = some p) : (C.take (j + 1)).flatMap Sd.ts = (C.take j).flatMap Sd.ts ++ Sd.ts p := flat_snoc' Sd.ts h
set_option maxRecDepth 100000 in
set_option maxHeartbeats 16000000 in
theorem counted_af (k n : Int) (t : ByteArray) (ns : List ByteArray) (ys : List Y) (l : List Ex) (rs : List Ar) (p : Int) (hl : l.length ≤ 1048576) (hrs : (rs.map Ar.mass).sum ≤ 1048576) :
    AF Tryd.prog 140 [(Ex.mk k n t ns ys l rs p).t] (· = Sd.row (counted k n t ns l rs)) := by
  have hnd := needsOf_af (Ex.mk k n t ns ys l rs p)
  simp only [Ex.needs] at hnd
  obtain ⟨m, hm⟩ : ∃ m, m = needs k n l.length := ⟨_, rfl⟩
  have hrl : rs.length ≤ 1048576 := by
    have := len_sum' Ar.mass Ar.mass_pos rs
    omega
  unfold counted
  rw [← hm] at hnd ⊢
  clear hm
  refine af_enter tok Tryd.func140 Tryd.ntmps140 Tryd.results140 rfl (by kernel_rfl) rfl rfl fun F hX => ?_
  repeat (first | refine gG ?_ | refine zN1 (fun hlen => ?_) | refine zN2 (fun hlen => ?_) | refine zAl (fun _ => ?_) | refine zBf ?_ | refine zAp (fun _ => ?_))
  refine zCall (hnd) ?_
  rintro _ rfl
  clear hnd
  cases d0 : decide ((l.length : Int) < m)
  · dsimp only [cond]
    obtain ⟨q, hq, hqm⟩ : ∃ q : Nat, max m 0 = (q : Int) ∧ m.toNat = q := ⟨m.toNat, by omega, rfl⟩
    have hql : q ≤ l.length := by have := of_decide_eq_false d0; omega
    rw [hqm]
    clear hqm
    repeat (first | refine gG ?_ | refine zN1 (fun hlen => ?_) | refine zN2 (fun hlen => ?_) | refine zAl (fun _ => ?_) | refine zBf ?_ | refine zAp (fun _ => ?_))
    refine zMaxr (r := (q : Int)) ?_
    repeat (first | refine gG ?_ | refine zN1 (fun hlen => ?_) | refine zN2 (fun hlen => ?_) | refine zAl (fun _ => ?_) | refine zBf ?_ | refine zAp (fun _ => ?_))
    refine x_own 4 210 9 rfl rfl rfl rfl rfl ?_
    obtain ⟨C2, hC2⟩ : ∃ C2, C2 = sco k t ns 0 (l.take q) := ⟨_, rfl⟩
    obtain ⟨C3, hC3⟩ : ∃ C3, C3 = rs.map armP := ⟨_, rfl⟩
    have hC2l : C2.length = q := by rw [hC2, sco_len, List.length_take]; omega
    have hC2a : ∀ j a, j < q → l[j]? = some a → C2[j]? = some (a, inner k t ns j) := fun j a hj ha => by rw [hC2, sco_at k t ns (l.take q) 0 j (by rw [List.getElem?_take, if_pos hj]; exact ha), Nat.zero_add]
    rw [← hC2, ← hC3]
    clear hC2
    refine x_loop [4, 7, 8, 34, 35, 36, 37, 38, 39, 40, 41, 42, 43, 44, 45, 46, 47, 48, 49, 50, 51, 52, 53, 54, 55, 56, 57, 58, 59, 60, 61, 62] (fun y : Nat × Value => [(34, .c (.lit (.int .i64 (y.1 : Nat)))), (4, .own 0 y.2)]) (fun y => [.row y.2 210 9 y.1 ((C2.take y.1).flatMap Sd.ts)]) (fun y => y.1 ≤ q) (fun y => q - y.1) (0, .slice none 0 0) (Nat.zero_le _) ⟨rfl, rfl, trivial⟩ rfl ?_
    rintro ⟨j, v⟩ hj
    dsimp only at hj ⊢
    repeat (first | refine gG ?_ | refine zN1 (fun hlen => ?_) | refine zN2 (fun hlen => ?_) | refine zAl (fun _ => ?_) | refine zBf ?_ | refine zAp (fun _ => ?_))
    refine x_cond rfl (fun h => ?_) (fun h => ?_)
    · have hj' : j < q := by simpa using h
      obtain ⟨a, ha⟩ := nth (l := l) (k := j) (by omega)
      have hsn := sd_snoc (hC2a j a hj' ha)
      have hat := Ex.at ha
      clear h hC2a ha
      generalize (C2.take j).flatMap Sd.ts = S at *
      have hjl : j < l.length := by omega
      obtain ⟨ka, na, ta, nsa, ysa, la, rsa, qa⟩ := a
      by_cases h10 : k = 10
      · subst h10
        rw [show inner 10 t ns j = ns from rfl] at hsn
        repeat (first | refine gX ?_ | refine zN1 (fun hlen => ?_) | refine zN2 (fun hlen => ?_) | refine zAl (fun _ => ?_) | refine zBf ?_ | refine zAp (fun _ => ?_))
        refine zIx (j) (hjl) ?_
        repeat (first | refine gG ?_ | refine zN1 (fun hlen => ?_) | refine zN2 (fun hlen => ?_) | refine zAl (fun _ => ?_) | refine zBx (fun _ => ?_) | refine zAp (fun _ => ?_))
        refine zEl (hat) (Ex.ts_len _) ?_
        repeat (first | refine gG ?_ | refine zN1 (fun hlen => ?_) | refine zN2 (fun hlen => ?_) | refine zAl (fun _ => ?_) | refine zBf ?_ | refine zAp (fun _ => ?_))
        exact ⟨(j + 1, _), hj', by simp only; omega, x_wkd 1 ⟨rfl, rfl, trivial⟩ (by simp only [hsn]; rfl) (by repeat (first | exact ag_refl | refine ag_upd rfl ?_ | refine ag_at rfl rfl ?_))⟩
      · have d10 : decide (k = 10) = false := decide_eq_false h10
        by_cases h6 : k = 6
        · subst h6
          cases d1 : decide ((j : Int) = 1)
          · rw [show inner 6 t ns j = [] by simp only [inner, d1]; rfl] at hsn
            repeat (first | refine gX ?_ | refine zN1 (fun hlen => ?_) | refine zN2 (fun hlen => ?_) | refine zAl (fun _ => ?_) | refine zBf ?_ | refine zAp (fun _ => ?_))
            refine zIx (j) (hjl) ?_
            repeat (first | refine gG ?_ | refine zN1 (fun hlen => ?_) | refine zN2 (fun hlen => ?_) | refine zAl (fun _ => ?_) | refine zBx (fun _ => ?_) | refine zAp (fun _ => ?_))
            refine zEl (hat) (Ex.ts_len _) ?_
            repeat (first | refine gX ?_ | refine zN1 (fun hlen => ?_) | refine zN2 (fun hlen => ?_) | refine zAl (fun _ => ?_) | refine zBf ?_ | refine zAp (fun _ => ?_))
            refine zBs (ts := Sd.ts (Ex.mk ka na ta nsa ysa la rsa qa, [])) ?_
            repeat (first | refine gG ?_ | refine zN1 (fun hlen => ?_) | refine zN2 (fun hlen => ?_) | refine zAl (fun _ => ?_) | refine zBf ?_ | refine zAp (fun _ => ?_))
            exact ⟨(j + 1, _), hj', by simp only; omega, x_wkd 1 ⟨rfl, rfl, trivial⟩ (by simp only [hsn]; rfl) (by repeat (first | exact ag_refl | refine ag_upd rfl ?_ | refine ag_at rfl rfl ?_))⟩
          · rw [show inner 6 t ns j = [t] by simp only [inner, d1]; rfl] at hsn
            repeat (first | refine gG ?_ | refine zN1 (fun hlen => ?_) | refine zN2 (fun hlen => ?_) | refine zAl (fun _ => ?_) | refine zBf ?_ | refine zAp (fun _ => ?_))
            refine zIx (j) (hjl) ?_
            repeat (first | refine gG ?_ | refine zN1 (fun hlen => ?_) | refine zN2 (fun hlen => ?_) | refine zAl (fun _ => ?_) | refine zBx (fun _ => ?_) | refine zAp (fun _ => ?_))
            refine zEl (hat) (Ex.ts_len _) ?_
            repeat (first | refine gG ?_ | refine zN1 (fun hlen => ?_) | refine zN2 (fun hlen => ?_) | refine zAl (fun _ => ?_) | refine zBf ?_ | refine zAp (fun _ => ?_))
            exact ⟨(j + 1, _), hj', by simp only; omega, x_wkd 1 ⟨rfl, rfl, trivial⟩ (by simp only [hsn]; rfl) (by repeat (first | exact ag_refl | refine ag_upd rfl ?_ | refine ag_at rfl rfl ?_))⟩
        · have d6 : decide (k = 6) = false := decide_eq_false h6
          rw [show inner k t ns j = [] by simp only [inner, d6, d10]; rfl] at hsn
          repeat (first | refine gX ?_ | refine zN1 (fun hlen => ?_) | refine zN2 (fun hlen => ?_) | refine zAl (fun _ => ?_) | refine zBf ?_ | refine zAp (fun _ => ?_))
          refine zIx (j) (hjl) ?_
          repeat (first | refine gG ?_ | refine zN1 (fun hlen => ?_) | refine zN2 (fun hlen => ?_) | refine zAl (fun _ => ?_) | refine zBx (fun _ => ?_) | refine zAp (fun _ => ?_))
          refine zEl (hat) (Ex.ts_len _) ?_
          repeat (first | refine gX ?_ | refine zN1 (fun hlen => ?_) | refine zN2 (fun hlen => ?_) | refine zAl (fun _ => ?_) | refine zBf ?_ | refine zAp (fun _ => ?_))
          refine zBs (ts := Sd.ts (Ex.mk ka na ta nsa ysa la rsa qa, [])) ?_
          repeat (first | refine gG ?_ | refine zN1 (fun hlen => ?_) | refine zN2 (fun hlen => ?_) | refine zAl (fun _ => ?_) | refine zBf ?_ | refine zAp (fun _ => ?_))
          exact ⟨(j + 1, _), hj', by simp only; omega, x_wkd 1 ⟨rfl, rfl, trivial⟩ (by simp only [hsn]; rfl) (by repeat (first | exact ag_refl | refine ag_upd rfl ?_ | refine ag_at rfl rfl ?_))⟩
    · have hj' : j = q := by
        have : ¬ j < q := by simpa using h
        omega
      subst hj'
      clear h hC2a
      rw [List.take_of_length_le (by omega)]
      cases d13 : decide (k = 13)
      · cases d18 : decide (k = 18)
        · repeat (first | refine gG ?_ | refine zN1 (fun hlen => ?_) | refine zN2 (fun hlen => ?_) | refine zAl (fun _ => ?_) | refine zBf ?_ | refine zAp (fun _ => ?_))
          first | refine zR ?_ | refine zQ ?_
          simp only [outT, Bool.or_self, cond, List.append_nil, Sd.row, hC2l]
        · repeat (first | refine gG ?_ | refine zN1 (fun hlen => ?_) | refine zN2 (fun hlen => ?_) | refine zAl (fun _ => ?_) | refine zBf ?_ | refine zAp (fun _ => ?_))
          refine x_loop [4, 10, 74, 75, 76, 77, 78, 79, 80, 81, 82, 83, 84, 85, 86, 87] (fun y : Nat × Value => [(74, .c (.lit (.int .i64 (y.1 : Nat)))), (4, .own 0 y.2)]) (fun y => [.row y.2 210 9 (j + y.1) (C2.flatMap Sd.ts ++ (C3.take y.1).flatMap Sd.ts)]) (fun y => y.1 ≤ rs.length) (fun y => rs.length - y.1) (0, v) (Nat.zero_le _) ⟨rfl, rfl, trivial⟩ (by simp only [List.take_zero, List.flatMap_nil, List.append_nil]; rfl) ?_
          rintro ⟨i, u⟩ hi
          dsimp only at hi ⊢
          repeat (first | refine gG ?_ | refine zN1 (fun hlen => ?_) | refine zN2 (fun hlen => ?_) | refine zAl (fun _ => ?_) | refine zBf ?_ | refine zAp (fun _ => ?_))
          refine x_cond rfl (fun h => ?_) (fun h => ?_)
          · have hi' : i < rs.length := by simpa using h
            obtain ⟨a, ha⟩ := nth hi'
            have hsn := sd_snoc (show C3[i]? = some (armP a) by rw [hC3, List.getElem?_map, ha]; rfl)
            have hbd := namesOf_af a.pat (by have := a.pat.nodes_mass; have := sum_mem' Ar.mass (List.mem_of_getElem? ha); obtain ⟨qa, ba⟩ := a; simp only [Ar.mass, Ar.pat] at *; omega)
            have hat := Ar.at ha
            rw [armP] at hsn
            clear h ha hC3
            have hsn2 : C2.flatMap Sd.ts ++ (C3.take (i + 1)).flatMap Sd.ts = C2.flatMap Sd.ts ++ (C3.take i).flatMap Sd.ts ++ Sd.ts (a.body, a.pat.binds) := by rw [hsn, List.append_assoc]
            clear hsn
            generalize C2.flatMap Sd.ts ++ (C3.take i).flatMap Sd.ts = S at *
            obtain ⟨⟨kq, nq, tq, lq⟩, ⟨ka, na, ta, nsa, ysa, la, rsa, qa⟩⟩ := a
            dsimp only [Ar.pat, Ar.body] at hbd hsn2
            generalize V.binds (.mk kq nq tq lq) = bq at *
            repeat (first | refine gG ?_ | refine zN1 (fun hlen => ?_) | refine zN2 (fun hlen => ?_) | refine zAl (fun _ => ?_) | refine zBf ?_ | refine zAp (fun _ => ?_))
            refine zIx (i) (hi') ?_
            repeat (first | refine gG ?_ | refine zN1 (fun hlen => ?_) | refine zN2 (fun hlen => ?_) | refine zAl (fun _ => ?_) | refine zBx (fun _ => ?_) | refine zAp (fun _ => ?_))
            refine zEl (hat) (Ar.ts_len _) ?_
            repeat (first | refine gG ?_ | refine zN1 (fun hlen => ?_) | refine zN2 (fun hlen => ?_) | refine zAl (fun _ => ?_) | refine zBf ?_ | refine zAp (fun _ => ?_))
            refine ac_draw [1, 1, 1, 1, 1, 1, 1, 1, 2, 1] [0, 1, 2, 3, 4, 5, 6, 7, 8, 9] (by kernel_rfl) (by kernel_rfl) ?_
            refine gW ?_
            apply w_q; (focus exact rfl); (focus exact rfl); focus (intro _; (refine zCall hbd ?_; rintro _ rfl); exact det_refl)
            refine gW ?_
            apply w_l; (focus exact rfl); (focus exact rfl); (first | (refine zkL ?_; first | refine zL1 ?_ | refine zL2 ?_ | refine zL3 ?_ | refine zLp ?_) | refine zM ?_ | (refine zkF ?_; first | refine zF1 ?_ | refine zF2 ?_ | refine zF3 ?_) | refine zA ?_ | (refine zkB ?_; first | refine zC5 ?_ | refine zC6 ?_ | refine zC1 ?_ | refine zC2 ?_ | refine zC3 ?_ | refine zC4 ?_ | refine zS5 ?_ | refine zS6 ?_ | refine zS1 ?_ | refine zS2 ?_ | refine zS3 ?_ | refine zS4 ?_ | refine zInc ?_ | refine zQ1 ?_ | refine zQ2 ?_ | refine zQ3 ?_ | refine zQ4 ?_ | refine zQ5 ?_ | refine zQ6 ?_) | (refine zkI ?_; first | refine zN1 (fun hlen => ?_) | refine zN2 (fun hlen => ?_) | refine zN3 ?_ | refine zN4 ?_ | refine zAp (fun _ => ?_)) | refine zS ?_ | refine zAl (fun _ => ?_) | refine zBx (fun _ => ?_) | refine zPt ?_ | refine zPf ?_ | refine zE ?_ | refine zEA ?_ | refine zNot ?_ | refine zBd ?_ | refine zBs ?_ | refine zFn ?_ | refine zK1 ?_ | refine zK2 ?_)
            refine gW ?_
            refine w_nil ?_
            repeat (first | refine gG ?_ | refine zN1 (fun hlen => ?_) | refine zN2 (fun hlen => ?_) | refine zAl (fun _ => ?_) | refine zBf ?_ | refine zAp (fun _ => ?_))
            exact ⟨(i + 1, _), hi', by simp only; omega, x_wkd 1 ⟨rfl, rfl, trivial⟩ (by simp only [hsn2]; rfl) (by repeat (first | exact ag_refl | refine ag_upd rfl ?_ | refine ag_at rfl rfl ?_))⟩
          · have hi' : i = rs.length := by
              have : ¬ i < rs.length := by simpa using h
              omega
            subst hi'
            clear h
            rw [List.take_of_length_le (by rw [hC3, List.length_map]; exact Nat.le_refl _)]
            repeat (first | refine gG ?_ | refine zN1 (fun hlen => ?_) | refine zN2 (fun hlen => ?_) | refine zAl (fun _ => ?_) | refine zBf ?_ | refine zAp (fun _ => ?_))
            first | refine zR ?_ | refine zQ ?_
            simp only [outT, Bool.or_true, Bool.true_or, Bool.or_false, cond, Sd.row, List.length_append, List.flatMap_append, hC2l]
            rw [show C3.length = rs.length by rw [hC3, List.length_map]]
      · repeat (first | refine gG ?_ | refine zN1 (fun hlen => ?_) | refine zN2 (fun hlen => ?_) | refine zAl (fun _ => ?_) | refine zBf ?_ | refine zAp (fun _ => ?_))
        refine x_loop [4, 10, 74, 75, 76, 77, 78, 79, 80, 81, 82, 83, 84, 85, 86, 87] (fun y : Nat × Value => [(74, .c (.lit (.int .i64 (y.1 : Nat)))), (4, .own 0 y.2)]) (fun y => [.row y.2 210 9 (j + y.1) (C2.flatMap Sd.ts ++ (C3.take y.1).flatMap Sd.ts)]) (fun y => y.1 ≤ rs.length) (fun y => rs.length - y.1) (0, v) (Nat.zero_le _) ⟨rfl, rfl, trivial⟩ (by simp only [List.take_zero, List.flatMap_nil, List.append_nil]; rfl) ?_
        rintro ⟨i, u⟩ hi
        dsimp only at hi ⊢
        repeat (first | refine gG ?_ | refine zN1 (fun hlen => ?_) | refine zN2 (fun hlen => ?_) | refine zAl (fun _ => ?_) | refine zBf ?_ | refine zAp (fun _ => ?_))
        refine x_cond rfl (fun h => ?_) (fun h => ?_)
        · have hi' : i < rs.length := by simpa using h
          obtain ⟨a, ha⟩ := nth hi'
          have hsn := sd_snoc (show C3[i]? = some (armP a) by rw [hC3, List.getElem?_map, ha]; rfl)
          have hbd := namesOf_af a.pat (by have := a.pat.nodes_mass; have := sum_mem' Ar.mass (List.mem_of_getElem? ha); obtain ⟨qa, ba⟩ := a; simp only [Ar.mass, Ar.pat] at *; omega)
          have hat := Ar.at ha
          rw [armP] at hsn
          clear h ha hC3
          have hsn2 : C2.flatMap Sd.ts ++ (C3.take (i + 1)).flatMap Sd.ts = C2.flatMap Sd.ts ++ (C3.take i).flatMap Sd.ts ++ Sd.ts (a.body, a.pat.binds) := by rw [hsn, List.append_assoc]
          clear hsn
          generalize C2.flatMap Sd.ts ++ (C3.take i).flatMap Sd.ts = S at *
          obtain ⟨⟨kq, nq, tq, lq⟩, ⟨ka, na, ta, nsa, ysa, la, rsa, qa⟩⟩ := a
          dsimp only [Ar.pat, Ar.body] at hbd hsn2
          generalize V.binds (.mk kq nq tq lq) = bq at *
          repeat (first | refine gG ?_ | refine zN1 (fun hlen => ?_) | refine zN2 (fun hlen => ?_) | refine zAl (fun _ => ?_) | refine zBf ?_ | refine zAp (fun _ => ?_))
          refine zIx (i) (hi') ?_
          repeat (first | refine gG ?_ | refine zN1 (fun hlen => ?_) | refine zN2 (fun hlen => ?_) | refine zAl (fun _ => ?_) | refine zBx (fun _ => ?_) | refine zAp (fun _ => ?_))
          refine zEl (hat) (Ar.ts_len _) ?_
          repeat (first | refine gG ?_ | refine zN1 (fun hlen => ?_) | refine zN2 (fun hlen => ?_) | refine zAl (fun _ => ?_) | refine zBf ?_ | refine zAp (fun _ => ?_))
          refine ac_draw [1, 1, 1, 1, 1, 1, 1, 1, 2, 1] [0, 1, 2, 3, 4, 5, 6, 7, 8, 9] (by kernel_rfl) (by kernel_rfl) ?_
          refine gW ?_
          apply w_q; (focus exact rfl); (focus exact rfl); focus (intro _; (refine zCall hbd ?_; rintro _ rfl); exact det_refl)
          refine gW ?_
          apply w_l; (focus exact rfl); (focus exact rfl); (first | (refine zkL ?_; first | refine zL1 ?_ | refine zL2 ?_ | refine zL3 ?_ | refine zLp ?_) | refine zM ?_ | (refine zkF ?_; first | refine zF1 ?_ | refine zF2 ?_ | refine zF3 ?_) | refine zA ?_ | (refine zkB ?_; first | refine zC5 ?_ | refine zC6 ?_ | refine zC1 ?_ | refine zC2 ?_ | refine zC3 ?_ | refine zC4 ?_ | refine zS5 ?_ | refine zS6 ?_ | refine zS1 ?_ | refine zS2 ?_ | refine zS3 ?_ | refine zS4 ?_ | refine zInc ?_ | refine zQ1 ?_ | refine zQ2 ?_ | refine zQ3 ?_ | refine zQ4 ?_ | refine zQ5 ?_ | refine zQ6 ?_) | (refine zkI ?_; first | refine zN1 (fun hlen => ?_) | refine zN2 (fun hlen => ?_) | refine zN3 ?_ | refine zN4 ?_ | refine zAp (fun _ => ?_)) | refine zS ?_ | refine zAl (fun _ => ?_) | refine zBx (fun _ => ?_) | refine zPt ?_ | refine zPf ?_ | refine zE ?_ | refine zEA ?_ | refine zNot ?_ | refine zBd ?_ | refine zBs ?_ | refine zFn ?_ | refine zK1 ?_ | refine zK2 ?_)
          refine gW ?_
          refine w_nil ?_
          repeat (first | refine gG ?_ | refine zN1 (fun hlen => ?_) | refine zN2 (fun hlen => ?_) | refine zAl (fun _ => ?_) | refine zBf ?_ | refine zAp (fun _ => ?_))
          exact ⟨(i + 1, _), hi', by simp only; omega, x_wkd 1 ⟨rfl, rfl, trivial⟩ (by simp only [hsn2]; rfl) (by repeat (first | exact ag_refl | refine ag_upd rfl ?_ | refine ag_at rfl rfl ?_))⟩
        · have hi' : i = rs.length := by
            have : ¬ i < rs.length := by simpa using h
            omega
          subst hi'
          clear h
          rw [List.take_of_length_le (by rw [hC3, List.length_map]; exact Nat.le_refl _)]
          repeat (first | refine gG ?_ | refine zN1 (fun hlen => ?_) | refine zN2 (fun hlen => ?_) | refine zAl (fun _ => ?_) | refine zBf ?_ | refine zAp (fun _ => ?_))
          first | refine zR ?_ | refine zQ ?_
          simp only [outT, Bool.or_true, Bool.true_or, Bool.or_false, cond, Sd.row, List.length_append, List.flatMap_append, hC2l]
          rw [show C3.length = rs.length by rw [hC3, List.length_map]]
  · dsimp only [cond]
    repeat (first | refine gG ?_ | refine zN1 (fun hlen => ?_) | refine zN2 (fun hlen => ?_) | refine zAl (fun _ => ?_) | refine zBf ?_ | refine zAp (fun _ => ?_))
    refine x_own 4 210 9 rfl rfl rfl rfl rfl ?_
    obtain ⟨C, hC⟩ : ∃ C, C = l.map plainP := ⟨_, rfl⟩
    have hCl : C.length = l.length := by rw [hC, List.length_map]
    have hCa : ∀ j a, l[j]? = some a → C[j]? = some (a, []) := fun j a ha => by rw [hC, List.getElem?_map, ha]; rfl
    rw [← hC]
    clear hC
    refine x_loop [4, 6, 21, 22, 23, 24, 25, 26, 27, 28, 29, 30] (fun y : Nat × Value => [(21, .c (.lit (.int .i64 (y.1 : Nat)))), (4, .own 0 y.2)]) (fun y => [.row y.2 210 9 y.1 ((C.take y.1).flatMap Sd.ts)]) (fun y => y.1 ≤ l.length) (fun y => l.length - y.1) (0, .slice none 0 0) (Nat.zero_le _) ⟨rfl, rfl, trivial⟩ rfl ?_
    rintro ⟨j, v⟩ hj
    dsimp only at hj ⊢
    repeat (first | refine gG ?_ | refine zN1 (fun hlen => ?_) | refine zN2 (fun hlen => ?_) | refine zAl (fun _ => ?_) | refine zBf ?_ | refine zAp (fun _ => ?_))
    refine x_cond rfl (fun h => ?_) (fun h => ?_)
    · have hj' : j < l.length := by simpa using h
      obtain ⟨a, ha⟩ := nth hj'
      have hsn := sd_snoc (hCa j a ha)
      have hat := Ex.at ha
      clear h hCa ha
      generalize (C.take j).flatMap Sd.ts = S at *
      obtain ⟨ka, na, ta, nsa, ysa, la, rsa, qa⟩ := a
      repeat (first | refine gX ?_ | refine zN1 (fun hlen => ?_) | refine zN2 (fun hlen => ?_) | refine zAl (fun _ => ?_) | refine zBf ?_ | refine zAp (fun _ => ?_))
      refine zIx (j) (hj') ?_
      repeat (first | refine gG ?_ | refine zN1 (fun hlen => ?_) | refine zN2 (fun hlen => ?_) | refine zAl (fun _ => ?_) | refine zBx (fun _ => ?_) | refine zAp (fun _ => ?_))
      refine zEl (hat) (Ex.ts_len _) ?_
      repeat (first | refine gX ?_ | refine zN1 (fun hlen => ?_) | refine zN2 (fun hlen => ?_) | refine zAl (fun _ => ?_) | refine zBf ?_ | refine zAp (fun _ => ?_))
      refine zBs (ts := Sd.ts (Ex.mk ka na ta nsa ysa la rsa qa, [])) ?_
      repeat (first | refine gG ?_ | refine zN1 (fun hlen => ?_) | refine zN2 (fun hlen => ?_) | refine zAl (fun _ => ?_) | refine zBf ?_ | refine zAp (fun _ => ?_))
      exact ⟨(j + 1, _), hj', by simp only; omega, x_wkd 1 ⟨rfl, rfl, trivial⟩ (by simp only [hsn]; rfl) (by repeat (first | exact ag_refl | refine ag_upd rfl ?_ | refine ag_at rfl rfl ?_))⟩
    · have hj' : j = l.length := by
        have : ¬ j < l.length := by simpa using h
        omega
      subst hj'
      clear h hCa
      rw [List.take_of_length_le (by omega)]
      repeat (first | refine gG ?_ | refine zN1 (fun hlen => ?_) | refine zN2 (fun hlen => ?_) | refine zAl (fun _ => ?_) | refine zBf ?_ | refine zAp (fun _ => ?_))
      first | refine zR ?_ | refine zQ ?_
      simp only [outT, Sd.row, hCl]
end Go.Proofs.YtllgibfmddihgaaDoor
namespace Go.Proofs.YtllgibfmddihgaaDoor
open Go.RowKit
theorem addS_snoc (N : List ByteArray) {l : List ByteArray} {j : Nat} {s : ByteArray} (h : l[j]? = some s) (out : List ByteArray) : addS N out (l.take (j + 1)) = bif hasS N s || hasS (addS N out (l.take j)) s then addS N out (l.take j) else addS N out (l.take j) ++ [s] := by
  rw [List.take_add_one, h, addS_app]
  rfl
theorem take_le' (l : List ByteArray) (j : Nat) : (l.take j).length ≤ l.length := by rw [List.length_take]; omega
theorem gather_fit (C : List Sd) {i : Nat} {p : Sd} (h : C[i]? = some p) {X : Nat} (hX : (C.map fun p => p.1.free.length).sum ≤ X) : (gather [] [] ((C.take i).map freeP)).length + p.1.free.length ≤ X := by
  have h1 := gather_len [] ((C.take i).map freeP) []
  rw [List.map_map] at h1
  have h2 := sum_take_succ (fun p : Sd => p.1.free.length) h
  have h3 := sum_take_le (fun p : Sd => p.1.free.length) C (i + 1)
  have h4 : ((C.take i).map ((fun p : List ByteArray × List ByteArray => p.2.length) ∘ freeP)).sum = ((C.take i).map fun p => p.1.free.length).sum := rfl
  simp only [List.length_nil] at h1
  omega
theorem gather_at (C : List Sd) {i : Nat} {p : Sd} (h : C[i]? = some p) : gather [] [] ((C.take (i + 1)).map freeP) = addS p.2 (gather [] [] ((C.take i).map freeP)) p.1.free := by
  have := gather_snoc [] (ps := C.map freeP) (k := i) (p := freeP p) (by rw [List.getElem?_map, h]; rfl) []
  rw [← List.map_take, ← List.map_take] at this
  rw [this]
  rfl
theorem counted_sum (k n : Int) (t : ByteArray) (ns : List ByteArray) (l : List Ex) (rs : List Ar) : ((counted k n t ns l rs).map fun p => p.1.free.length).sum ≤ (l.map Ex.mass).sum + (rs.map Ar.mass).sum := by
  have h := partsOf_le k n t ns (l.map Ex.free) (rs.map Ar.free)
  rw [← counted_free, List.map_map, List.map_map, List.map_map] at h
  have h1 : (l.map (List.length ∘ Ex.free)).sum ≤ (l.map Ex.mass).sum := sum_le_of fun a _ => a.free_len
  have h2 : (rs.map ((fun p : List ByteArray × List ByteArray => p.2.length) ∘ Ar.free)).sum ≤ (rs.map Ar.mass).sum := sum_le_of fun a _ => by
    obtain ⟨q, b⟩ := a
    have := b.free_len
    rw [Ar.mass]
    exact Nat.le_trans this (Nat.le_add_left _ _)
  have h3 : ((counted k n t ns l rs).map ((fun p : List ByteArray × List ByteArray => p.2.length) ∘ freeP)).sum = ((counted k n t ns l rs).map fun p => p.1.free.length).sum := rfl
  omega
set_option maxRecDepth 100000 in
set_option maxHeartbeats 8000000 in
theorem freeOf_af (e : Ex) : e.mass ≤ 1048576 → AF Tryd.prog 59 [e.t] (· = strRow e.free) := by
  induction e using Ex.ind with
  | h k n t ns ys l rs p ih ihr =>
    intro hv
    rw [Ex.mass, Ex.masses_sum, Ar.masses_sum] at hv
    have hcs := counted_sum k n t ns l rs
    have hC := counted_af k n t ns ys l rs p (by have := len_sum' Ex.mass Ex.mass_pos l; omega) (by omega)
    have hCm : ∀ x ∈ counted k n t ns l rs, AF Tryd.prog 59 [x.1.t] (· = strRow x.1.free) := fun x hx => by
      rcases counted_mem hx with h | ⟨r, hr, h⟩
      · exact ih x.1 h (by have := sum_mem' Ex.mass h; omega)
      · rw [h]
        have := sum_mem' Ar.mass hr
        obtain ⟨q, b⟩ := r
        rw [Ar.mass] at this
        exact ihr _ hr q b rfl (by omega)
    have hfin : ¬ k = 5 → (Ex.mk k n t ns ys l rs p).free = gather [] [] ((counted k n t ns l rs).map freeP) := fun h5 => by rw [free_parts h5, counted_free]
    have hsum : ((counted k n t ns l rs).map fun p => p.1.free.length).sum ≤ 1048576 := by omega
    generalize counted k n t ns l rs = C at *
    clear ih ihr hv hcs
    by_cases h5 : k = 5
    · subst h5
      rw [free_five]
      refine af_enter tok Tryd.func59 Tryd.ntmps59 Tryd.results59 rfl (by kernel_rfl) rfl rfl fun F hX => ?_
      repeat (first | refine gG ?_ | refine zN1 (fun hlen => ?_) | refine zN2 (fun hlen => ?_) | refine zAl (fun _ => ?_) | refine zBf ?_ | refine zAp (fun _ => ?_))
      first | refine zR ?_ | refine zQ ?_
      rfl
    have d5 : decide (k = 5) = false := decide_eq_false h5
    rw [hfin h5]
    clear hfin h5
    refine af_enter tok Tryd.func59 Tryd.ntmps59 Tryd.results59 rfl (by kernel_rfl) rfl rfl fun F hX => ?_
    repeat (first | refine gG ?_ | refine zN1 (fun hlen => ?_) | refine zN2 (fun hlen => ?_) | refine zAl (fun _ => ?_) | refine zBf ?_ | refine zAp (fun _ => ?_))
    refine zCall (hC) ?_
    rintro _ rfl
    clear hC
    repeat (first | refine gG ?_ | refine zN1 (fun hlen => ?_) | refine zN2 (fun hlen => ?_) | refine zAl (fun _ => ?_) | refine zBf ?_ | refine zAp (fun _ => ?_))
    refine x_own 3 9 1 rfl rfl rfl rfl rfl ?_
    refine x_loop [3, 5, 7, 17, 18, 19, 20, 21, 22, 23, 24, 25, 26, 27, 28, 29, 30, 31, 32, 33, 34, 35, 36, 37, 38, 39, 40, 41, 42, 43, 44, 45] (fun y : Nat × Value => [(17, .c (.lit (.int .i64 (y.1 : Nat)))), (3, .own 0 y.2)]) (fun y => [.row y.2 9 1 (gather [] [] ((C.take y.1).map freeP)).length ((gather [] [] ((C.take y.1).map freeP)).flatMap strTs)]) (fun y => y.1 ≤ C.length) (fun y => C.length - y.1) (0, .slice none 0 0) (Nat.zero_le _) ⟨rfl, rfl, trivial⟩ rfl ?_
    rintro ⟨i, v⟩ hi
    dsimp only at hi ⊢
    repeat (first | refine gG ?_ | refine zN1 (fun hlen => ?_) | refine zN2 (fun hlen => ?_) | refine zAl (fun _ => ?_) | refine zBf ?_ | refine zAp (fun _ => ?_))
    refine x_cond rfl (fun h => ?_) (fun h => ?_)
    · have hi' : i < C.length := by simpa using h
      obtain ⟨x, hx⟩ := nth hi'
      have hc := hCm x (List.mem_of_getElem? hx)
      have hfit := gather_fit C hx hsum
      have hst := gather_at C hx
      have hat := Sd.at hx
      clear h hCm hx
      generalize gather [] [] ((C.take i).map freeP) = G at *
      obtain ⟨e, N⟩ := x
      dsimp only at hc hfit ⊢
      generalize e.free = W at *
      obtain ⟨ka, na, ta, nsa, ysa, la, rsa, qa⟩ := e
      repeat (first | refine gG ?_ | refine zN1 (fun hlen => ?_) | refine zN2 (fun hlen => ?_) | refine zAl (fun _ => ?_) | refine zBf ?_ | refine zAp (fun _ => ?_))
      refine zIx (i) (hi') ?_
      repeat (first | refine gG ?_ | refine zN1 (fun hlen => ?_) | refine zN2 (fun hlen => ?_) | refine zAl (fun _ => ?_) | refine zBx (fun _ => ?_) | refine zAp (fun _ => ?_))
      refine zEl (hat) (Sd.ts_len _) ?_
      repeat (first | refine gG ?_ | refine zN1 (fun hlen => ?_) | refine zN2 (fun hlen => ?_) | refine zAl (fun _ => ?_) | refine zBf ?_ | refine zAp (fun _ => ?_))
      rename_i b5
      refine zCall (hc) ?_
      rintro _ rfl
      clear hc hat
      repeat (first | refine gG ?_ | refine zN1 (fun hlen => ?_) | refine zN2 (fun hlen => ?_) | refine zAl (fun _ => ?_) | refine zBf ?_ | refine zAp (fun _ => ?_))
      refine x_loop [3, 7, 25, 26, 27, 28, 29, 30, 31, 32, 33, 34, 35, 36, 37, 38, 39, 40, 41, 42, 43, 44] (fun y : Nat × Value => [(25, .c (.lit (.int .i64 (y.1 : Nat)))), (3, .own 0 y.2)]) (fun y => [.row y.2 9 1 (addS N G (W.take y.1)).length ((addS N G (W.take y.1)).flatMap strTs), .box b5 210 [.c (.lit (.int .i64 ka)), .c (.lit (.int .i64 na)), .c (.lit (.string ta)), .c (strRow nsa), .c (Y.row ysa), .c (Ex.row la), .c (Ar.row rsa), .c (.lit (.int .i64 qa)), .c (strRow N)]]) (fun y => y.1 ≤ W.length) (fun y => W.length - y.1) (0, v) (Nat.zero_le _) ⟨rfl, rfl, trivial⟩ rfl ?_
      rintro ⟨j, u⟩ hj
      dsimp only at hj ⊢
      repeat (first | refine gG ?_ | refine zN1 (fun hlen => ?_) | refine zN2 (fun hlen => ?_) | refine zAl (fun _ => ?_) | refine zBf ?_ | refine zAp (fun _ => ?_))
      refine x_cond rfl (fun h => ?_) (fun h => ?_)
      · have hj' : j < W.length := by simpa using h
        obtain ⟨s, hs⟩ := nth hj'
        have hsn := addS_snoc N hs G
        have hln := addS_len N (W.take j) G
        have htl := take_le' W j
        clear h
        generalize addS N G (W.take j) = O at *
        have hc1 := contains_af N s
        have hc2 := contains_af O s
        cases e1 : hasS N s
        · rw [e1] at hc1
          cases e2 : hasS O s
          · rw [e2] at hc2
            repeat (first | refine gG ?_ | refine zN1 (fun hlen => ?_) | refine zN2 (fun hlen => ?_) | refine zAl (fun _ => ?_) | refine zBf ?_ | refine zAp (fun _ => ?_))
            refine zIx j hj' ?_
            repeat (first | refine gG ?_ | refine zN1 (fun hlen => ?_) | refine zN2 (fun hlen => ?_) | refine zAl (fun _ => ?_) | refine zBf ?_ | refine zAp (fun _ => ?_))
            refine zEl1 (str_at1 hs) ?_
            repeat (first | refine gG ?_ | refine zN1 (fun hlen => ?_) | refine zN2 (fun hlen => ?_) | refine zAl (fun _ => ?_) | refine zBf ?_ | refine zAp (fun _ => ?_))
            refine zCall (hc1) ?_
            rintro _ rfl
            repeat (first | refine gG ?_ | refine zN1 (fun hlen => ?_) | refine zN2 (fun hlen => ?_) | refine zAl (fun _ => ?_) | refine zBf ?_ | refine zAp (fun _ => ?_))
            refine zPeek (hc2) ?_
            rintro _ rfl
            refine ⟨rfl, ?_⟩
            repeat (first | refine gG ?_ | refine zN1 (fun hlen => ?_) | refine zN2 (fun hlen => ?_) | refine zAl (fun _ => ?_) | refine zBf ?_ | refine zAp (fun _ => ?_))
            exact ⟨(j + 1, _), hj', by simp only; omega, x_wkd 2 ⟨rfl, rfl, trivial⟩ (by simp only [hsn, e1, e2, Bool.or_false, cond, List.length_append, List.flatMap_append]; rfl) (by repeat (first | exact ag_refl | refine ag_upd rfl ?_ | refine ag_at rfl rfl ?_))⟩
          · rw [e2] at hc2
            repeat (first | refine gG ?_ | refine zN1 (fun hlen => ?_) | refine zN2 (fun hlen => ?_) | refine zAl (fun _ => ?_) | refine zBf ?_ | refine zAp (fun _ => ?_))
            refine zIx j hj' ?_
            repeat (first | refine gG ?_ | refine zN1 (fun hlen => ?_) | refine zN2 (fun hlen => ?_) | refine zAl (fun _ => ?_) | refine zBf ?_ | refine zAp (fun _ => ?_))
            refine zEl1 (str_at1 hs) ?_
            repeat (first | refine gG ?_ | refine zN1 (fun hlen => ?_) | refine zN2 (fun hlen => ?_) | refine zAl (fun _ => ?_) | refine zBf ?_ | refine zAp (fun _ => ?_))
            refine zCall (hc1) ?_
            rintro _ rfl
            repeat (first | refine gG ?_ | refine zN1 (fun hlen => ?_) | refine zN2 (fun hlen => ?_) | refine zAl (fun _ => ?_) | refine zBf ?_ | refine zAp (fun _ => ?_))
            refine zPeek (hc2) ?_
            rintro _ rfl
            refine ⟨rfl, ?_⟩
            repeat (first | refine gG ?_ | refine zN1 (fun hlen => ?_) | refine zN2 (fun hlen => ?_) | refine zAl (fun _ => ?_) | refine zBf ?_ | refine zAp (fun _ => ?_))
            exact ⟨(j + 1, u), hj', by simp only; omega, x_wkd 2 ⟨rfl, rfl, trivial⟩ (by simp only [hsn, e1, e2, Bool.or_true, Bool.true_or, cond]; rfl) (by repeat (first | exact ag_refl | refine ag_upd rfl ?_ | refine ag_at rfl rfl ?_))⟩
        · rw [e1] at hc1
          repeat (first | refine gG ?_ | refine zN1 (fun hlen => ?_) | refine zN2 (fun hlen => ?_) | refine zAl (fun _ => ?_) | refine zBf ?_ | refine zAp (fun _ => ?_))
          refine zIx j hj' ?_
          repeat (first | refine gG ?_ | refine zN1 (fun hlen => ?_) | refine zN2 (fun hlen => ?_) | refine zAl (fun _ => ?_) | refine zBf ?_ | refine zAp (fun _ => ?_))
          refine zEl1 (str_at1 hs) ?_
          repeat (first | refine gG ?_ | refine zN1 (fun hlen => ?_) | refine zN2 (fun hlen => ?_) | refine zAl (fun _ => ?_) | refine zBf ?_ | refine zAp (fun _ => ?_))
          refine zCall (hc1) ?_
          rintro _ rfl
          repeat (first | refine gG ?_ | refine zN1 (fun hlen => ?_) | refine zN2 (fun hlen => ?_) | refine zAl (fun _ => ?_) | refine zBf ?_ | refine zAp (fun _ => ?_))
          exact ⟨(j + 1, u), hj', by simp only; omega, x_wkd 2 ⟨rfl, rfl, trivial⟩ (by simp only [hsn, e1, Bool.or_true, Bool.true_or, cond]; rfl) (by repeat (first | exact ag_refl | refine ag_upd rfl ?_ | refine ag_at rfl rfl ?_))⟩
      · have hj' : j = W.length := by
          have : ¬ j < W.length := by simpa using h
          omega
        subst hj'
        clear h
        rw [List.take_length]
        rw [← hst]
        repeat (first | refine gG ?_ | refine zN1 (fun hlen => ?_) | refine zN2 (fun hlen => ?_) | refine zAl (fun _ => ?_) | refine zBf ?_ | refine zAp (fun _ => ?_))
        exact ⟨(i + 1, u), hi', by simp only; omega, x_wkd 1 ⟨rfl, rfl, trivial⟩ rfl (by repeat (first | exact ag_refl | refine ag_upd rfl ?_ | refine ag_at rfl rfl ?_))⟩
    · have hi' : i = C.length := by
        have : ¬ i < C.length := by simpa using h
        omega
      subst hi'
      clear h
      rw [List.take_length]
      repeat (first | refine gG ?_ | refine zN1 (fun hlen => ?_) | refine zN2 (fun hlen => ?_) | refine zAl (fun _ => ?_) | refine zBf ?_ | refine zAp (fun _ => ?_))
      first | refine zR ?_ | refine zQ ?_
      rfl
end Go.Proofs.YtllgibfmddihgaaDoor
namespace Go.Proofs.YtllgibfmddihgaaDoor
open Go.RowKit
section
variable {md : Region.Mode} {ops : Array Oper} {cls : Nat → Nat}
/-- m says, bit by bit, for whom each operation waits -/
def claimB (md : Region.Mode) (ops : Array Oper) (m : List Nat) : Bool :=
  (List.range ops.size).all fun j => (List.range ops.size).all fun i => !(m.getD j 0).testBit i ||
    (match ops[j]? with
      | some oj => oj.after.any fun e => Region.binds md e && (e.on == i || (Nat.blt e.on j && (m.getD e.on 0).testBit i))
      | none => false)
theorem claim_reach {m : List Nat} (h : claimB md ops m = true) {i : Nat} (hi : i < ops.size) : ∀ (f j : Nat), j < f → j < ops.size → (m.getD j 0).testBit i = true → reachB md ops f j i = true
  | 0, _, h0, _, _ => by omega
  | f + 1, j, hf, hj, hb => by
    have h1 := List.all_eq_true.1 (List.all_eq_true.1 h j (List.mem_range.2 hj)) i (List.mem_range.2 hi)
    rw [hb] at h1
    simp only [Bool.not_true, Bool.false_or] at h1
    unfold reachB
    split at h1
    · rename_i oj hoj
      rw [hoj]
      obtain ⟨e, he, hq⟩ := Array.any_eq_true'.1 h1
      refine Array.any_eq_true'.2 ⟨e, he, ?_⟩
      simp only [Bool.and_eq_true, Bool.or_eq_true, beq_iff_eq] at hq ⊢
      refine ⟨hq.1, hq.2.imp id fun h2 => ?_⟩
      have hlt : e.on < j := by simpa using h2.1
      exact claim_reach h hi f e.on (by omega) (by omega) h2.2
    · cases h1
def freeC (ops : Array Oper) (cls : Nat → Nat) (m : List Nat) (listed : Array Bool) (i : Nat) : Bool :=
  match ops[i]? with
  | none => false
  | some oi => (List.range ops.size).all fun j => j == i || listed.getD j true || (m.getD j 0).testBit i ||
      (match ops[j]? with | some oj => oi.apart ops oj && (cls j != 2 || cls i == 0) | none => true)
theorem freeC_A {m : List Nat} (h : claimB md ops m = true) {listed : Array Bool} {i : Nat} (hf : freeC ops cls m listed i = true) : freeA md ops cls listed i = true := by
  unfold freeC at hf
  unfold freeA
  split at hf
  · cases hf
  · rename_i oi hoi
    rw [hoi]
    refine List.all_eq_true.2 fun j hj => ?_
    have h1 := List.all_eq_true.1 hf j hj
    simp only [Bool.or_eq_true] at h1 ⊢
    rcases h1 with ((h1 | h1) | h1) | h1
    · exact .inl (.inl (.inl h1))
    · exact .inl (.inl (.inr h1))
    · exact .inl (.inr (claim_reach h (Array.getElem?_eq_some_iff.1 hoi).1 _ j (List.mem_range.1 hj) (List.mem_range.1 hj) h1))
    · exact .inr h1
def ordC (md : Region.Mode) (ops : Array Oper) (cls : Nat → Nat) (m : List Nat) : List Nat → Array Bool → Bool
  | [], listed => (Region.ready md ops listed).isEmpty
  | i :: r, listed => (if 2 ≤ cls i then decide (Region.ready md ops listed = [i]) else (Region.ready md ops listed).contains i && freeC ops cls m listed i) && ordC md ops cls m r (listed.setIfInBounds i true)
theorem ordC_B {m : List Nat} (h : claimB md ops m = true) : ∀ (r : List Nat) (listed : Array Bool), ordC md ops cls m r listed = true → ordB md ops cls r listed = true
  | [], listed, ho => ho
  | i :: r, listed, ho => by
    simp only [ordC, ordB, Bool.and_eq_true] at ho ⊢
    refine ⟨?_, ordC_B h r _ ho.2⟩
    by_cases h2 : 2 ≤ cls i
    · rw [if_pos h2] at ho ⊢; exact ho.1
    · rw [if_neg h2] at ho ⊢
      have h3 := ho.1
      simp only [Bool.and_eq_true] at h3 ⊢
      exact ⟨h3.1, freeC_A h h3.2⟩
end
section
variable {P : Program} {F : Frm} {τ : Nat → AV} {hp : List Blk} {N : Nat} {Q : Exit → AS → Prop} {id : Nat} {l : List Oper}
theorem ac_drawB (m c r : List Nat) (hm : P.follows .mixedOrders = true) (hB : (claimB .any l.toArray m && (ordC .any l.toArray (clsOf c) m r (Array.replicate l.toArray.size false) && Nat.beq r.length l.length)) = true)
    (h : WO P F l.toArray N (clsOf c) (fun τ' hp' => Q .normal ⟨τ', hp', N⟩) r τ hp) : AC P F (.region id l.toArray true) Q ⟨τ, hp, N⟩ := by
  simp only [Bool.and_eq_true] at hB
  refine ac_draw c r hm ?_ h
  simp only [Bool.and_eq_true]
  exact ⟨ordC_B hB.1 _ _ hB.2.1, hB.2.2⟩
end
end Go.Proofs.YtllgibfmddihgaaDoor
namespace Go.Proofs.YtllgibfmddihgaaDoor
open Go.RowKit
theorem lo_eqsr {P : Program} {F : Frm} {d : Option Tmp} {ty : TypeId} {pos : String} {aft : Array Edge} {g : Option (Nat × Bool)} {ρ : Operand → AV} {hp : List Blk} {K : AV → List Blk → Prop} {t t' : TypeId} {x y : Operand} {a b : ByteArray} {r : Bool} (hr : decide (a = b) = r) (h : K (.c (.lit (.bool r))) hp) (hx : ρ x = .c (.lit (.string a)) := by exact rfl) (hy : ρ y = .c (.lit (.string b)) := by exact rfl) : LO P F ⟨d, .binOp .eql t x y t', ty, pos, aft, g⟩ ρ hp K :=
  lo_eqs hx hy (hr ▸ h)
theorem lo_nesr {P : Program} {F : Frm} {d : Option Tmp} {ty : TypeId} {pos : String} {aft : Array Edge} {g : Option (Nat × Bool)} {ρ : Operand → AV} {hp : List Blk} {K : AV → List Blk → Prop} {t t' : TypeId} {x y : Operand} {a b : ByteArray} {r : Bool} (h : K (.c (.lit (.bool r))) hp) (hx : ρ x = .c (.lit (.string a)) := by exact rfl) (hy : ρ y = .c (.lit (.string b)) := by exact rfl) (hr : (!decide (a = b)) = r := by simp) : LO P F ⟨d, .binOp .neq t x y t', ty, pos, aft, g⟩ ρ hp K :=
  lo_nes hx hy (hr ▸ h)
theorem lo_neir {P : Program} {F : Frm} {d : Option Tmp} {ty : TypeId} {pos : String} {aft : Array Edge} {g : Option (Nat × Bool)} {ρ : Operand → AV} {hp : List Blk} {K : AV → List Blk → Prop} {t t' : TypeId} {x y : Operand} {k : IntKind} {a b : Int} {r : Bool} (h : K (.c (.lit (.bool r))) hp) (hx : ρ x = .c (.lit (.int k a)) := by exact rfl) (hy : ρ y = .c (.lit (.int k b)) := by exact rfl) (hr : (!decide (a = b)) = r := by simp) : LO P F ⟨d, .binOp .neq t x y t', ty, pos, aft, g⟩ ρ hp K :=
  lo_neq hx hy (hr ▸ h)
end Go.Proofs.YtllgibfmddihgaaDoor
