/-
  Texts of this proof, part 14: Vqd Vph Vqe Open Law OpenT.
-/
import Derived.Test.YtnkafjkcjpajgaaQRenewPlan13
import Derived.Deep.Slices
import Derived.JoinedCond
import Derived.Lib.AppendStr
import Derived.Lib.AppendZerosOnto
import Derived.Lib.MinMax
import Derived.OpenShut
import Derived.ProofKit
import Derived.Test.YtnkafjkcjpajgaaRows
namespace Go.Proofs.Ytnkafjkcjpajgaa
open Go.RowKit
set_option maxRecDepth 100000 in
set_option maxHeartbeats 1000000 in
theorem no_af (e : Int) : AF Try.prog 74 [.lit (.int .i64 e)] (· = .tup [wayT [], .lit (.int .i64 e)]) := by
  refine af_enter tok Try.func74 Try.ntmps74 Try.results74 rfl (by kernel_rfl) rfl rfl fun F hX => ?_
  repeat (first | refine gG ?_ | refine zAl (fun _ => ?_))
  first | refine zR (ts := [wayT [], .lit (.int .i64 e)]) ?_ | refine zQ (ts := [wayT [], .lit (.int .i64 e)]) ?_
  rfl
/-- how the place of a name is found from the end -/
def posFrom (s : ByteArray) (l : List ByteArray) (j : Nat) : Int := if posOf s (l.drop j) < 0 then -1 else posOf s (l.drop j) + j
theorem posOf_cons (s a : ByteArray) (l : List ByteArray) : posOf s (a :: l) = if s = a then 0 else if posOf s l < 0 then -1 else posOf s l + 1 := by
  unfold posOf
  rw [idxI_cons]
  by_cases h : s = a
  · rw [if_pos h, decide_eq_true h]; rfl
  · rw [if_neg h, decide_eq_false h]; rfl
theorem posOf_ge (s : ByteArray) (l : List ByteArray) : -1 ≤ posOf s l := by
  unfold posOf idxI
  split <;> omega
theorem posFrom_end (s : ByteArray) (l : List ByteArray) : posFrom s l l.length = -1 := by
  unfold posFrom
  rw [List.drop_length]
  rfl
theorem posFrom_hit {s : ByteArray} {l : List ByteArray} {j : Nat} (h : l[j]? = some s) : posFrom s l j = j := by
  obtain ⟨h1, rfl⟩ := List.getElem?_eq_some_iff.1 h
  unfold posFrom
  rw [List.drop_eq_getElem_cons h1, posOf_cons, if_pos rfl]
  simp
theorem posFrom_miss {s a : ByteArray} {l : List ByteArray} {j : Nat} (h : l[j]? = some a) (hne : a ≠ s) : posFrom s l j = posFrom s l (j + 1) := by
  obtain ⟨h1, rfl⟩ := List.getElem?_eq_some_iff.1 h
  unfold posFrom
  rw [List.drop_eq_getElem_cons h1, posOf_cons, if_neg (Ne.symm hne)]
  by_cases h2 : posOf s (l.drop (j + 1)) < 0
  · simp [h2]
  · simp only [if_neg h2]
    rw [if_neg (by omega)]
    push_cast
    omega
theorem posFrom_zero (s : ByteArray) (l : List ByteArray) : posFrom s l 0 = posOf s l := by
  unfold posFrom
  rw [List.drop_zero]
  have := posOf_ge s l
  split <;> omega
set_option maxRecDepth 100000 in
set_option maxHeartbeats 16000000 in
theorem refPlan_af (o w : Pr) (ho : o.size ≤ 1048576) (hw : w.size ≤ 1048576) : AF Try.prog 33 [o.t, w.t] (· = .tup [wayT (wayR o w o.actors).1, .lit (.int .i64 (wayR o w o.actors).2)]) := by
  have hsame := refSameB_af o w
  have hfirst := refFirst_af w
  obtain ⟨hol, hos⟩ := acs_small ho
  obtain ⟨hwl, hws⟩ := acs_small hw
  have hT0 := wayTo_zero o w o.actors
  have hTb := @wayTo_bad o w o.actors
  have hTs := @wayTo_step o w o.actors
  have hTe := @wayTo_end o w o.actors
  have hone : ∀ a, oneR o w a = match w.actor a.name with
    | none => (mov0, 4)
    | some b => bif !decide (a.types.length = a.names.length) || !decide (b.types.length = b.names.length) then (mov0, 3) else bif !sameB o w a.msg b.msg then (mov0, 12) else planR o w a b := fun _ => rfl
  have hact : ∀ n, w.actor n = w.actors.find? fun a => decide (a.name = n) := fun _ => rfl
  have hE := fun a s y (h : posOf s a.names < 0) => fldE_new (o := o) (w := w) (a := a) (p := (s, y)) h
  have hF := fun a s y i (h : posOf s a.names = ((i : Nat) : Int)) z (hz : a.types[i]? = some z) => fldE_old (o := o) (w := w) (a := a) (p := (s, y)) h hz
  have hbad : ∀ a p, badF o w a p = !decide ((fldE o w a p).1 = 0) := fun _ _ => rfl
  have hM : ∀ a s y, (fldM o w a (s, y)).ts = .lit (.int .i64 (posOf s a.names)) :: (fldE o w a (s, y)).2.ts := fun _ _ _ => rfl
  have hs0 := fldsTo_zero o w
  have hsn := @fldsTo_snoc o w
  have hsa := fldsTo_all o w
  have hplan : ∀ a b, planR o w a b = match (b.names.zip b.types).find? (badF o w a) with
    | some p => (mov0, (fldE o w a p).1)
    | none => (⟨a.name, (a.names.length : Nat), (b.names.zip b.types).map (fldM o w a), lostTo a b.names a.names.length⟩, 0) := fun _ _ => rfl
  clear ho hw
  generalize hls : w.least = ls at *
  clear hls
  generalize w.actor = act at *
  generalize sameB o w = sB at *
  generalize planR o w = pl at *
  generalize oneR o w = oR at *
  generalize WayTo o w o.actors = W at *
  generalize wayR o w o.actors = wr at *
  generalize fldE o w = fE at *
  generalize fldM o w = fM at *
  generalize badF o w = bad at *
  generalize fldsTo o w = fT at *
  obtain ⟨on, ov, ous, odas, otrs, oims, ofus, acs⟩ := o
  obtain ⟨wn, wv, wus, wdas, wtrs, wims, wfus, bcs⟩ := w
  dsimp only at *
  refine af_enter tok Try.func33 Try.ntmps33 Try.results33 rfl (by kernel_rfl) rfl rfl fun F hX => ?_
  repeat (first | refine gG ?_ | refine zN1 (fun hlen => ?_) | refine zN2 (fun hlen => ?_) | refine zSub ?_ | refine zAl (fun _ => ?_) | refine zBf ?_ | refine zAp (fun _ => ?_))
  rename_i b0 b1
  refine x_own_cell 1 0 129 4 rfl rfl rfl rfl rfl rfl ?_
  refine x_loop [5, 9, 10, 11, 12, 13, 14, 15, 16, 17, 18, 19, 20, 24, 25, 26, 27, 28, 29, 30, 31, 32, 33, 34, 35, 36, 37, 38, 39, 40, 41, 42, 43, 44, 45, 46, 47, 48, 49, 50, 51, 52, 53, 54, 55, 56, 57, 58, 59, 60, 61, 62, 63, 64, 65, 66, 67, 68, 69, 70, 71, 72, 73, 74, 75, 76, 77, 78, 79, 80, 81, 82, 83, 84, 85, 86, 87, 88, 89, 90, 91, 92, 93, 94, 95, 96, 97, 98, 99, 100, 101, 102, 103, 104, 105, 106, 107, 108, 109, 110, 111, 112, 113, 114, 115, 116, 117, 118, 119, 120, 121, 122, 123, 124, 125, 126, 127, 128, 129, 130, 131, 132, 133, 134, 135, 136, 137, 138, 139, 140, 141, 142, 143, 144, 145, 146, 147, 148, 149, 150, 151, 152, 153, 154, 155, 156, 157, 158, 159, 160, 161, 162, 163, 164, 165, 166, 167, 168, 169, 170, 171, 172, 173, 174, 175, 176, 177, 178, 179, 180, 181, 182, 183, 184, 185, 186, 187, 188, 189, 190, 191, 192, 193, 194, 195, 196, 197, 198] (fun y : Nat × Value × List Mov => [(24, .c (.lit (.int .i64 (y.1 : Nat))))]) (fun y => [.box b0 78 [.c (.lit (.slice none 0 0))], .box b1 78 [.own 2 y.2.1], .row y.2.1 129 4 y.2.2.length (y.2.2.flatMap Mov.ts)])
    (fun y => y.1 ≤ acs.length ∧ y.2.2.length = y.1 ∧ W y.1 y.2.2) (fun y => acs.length - y.1) (0, .slice none 0 0, []) ⟨Nat.zero_le _, rfl, hT0⟩ ⟨rfl, trivial⟩ rfl ?_
  clear hT0
  rintro ⟨k, v, ms⟩ ⟨hk, hml, hW⟩
  dsimp only at hk hml hW ⊢
  repeat (first | refine gG ?_ | refine zN1 (fun hlen => ?_) | refine zN2 (fun hlen => ?_) | refine zSub ?_ | refine zAl (fun _ => ?_) | refine zBf ?_ | refine zAp (fun _ => ?_))
  refine x_cond rfl (fun h => ?_) (fun h => ?_)
  rotate_left
  · have hk' : k = acs.length := by have : ¬ k < acs.length := by simpa using h
                                    omega
    subst hk'
    have hr := hTe hW
    rw [hr]
    clear hr h hW hTb hTs hTe hact hplan hos hws hone hsame hE hF hbad hM hs0 hsn hsa hfirst
    repeat (first | refine gG ?_ | refine zN1 (fun hlen => ?_) | refine zN2 (fun hlen => ?_) | refine zSub ?_ | refine zAl (fun _ => ?_) | refine zBf ?_ | refine zAp (fun _ => ?_))
    first | refine zR (ts := [wayT ms, .lit (.int .i64 0)]) ?_ | refine zQ (ts := [wayT ms, .lit (.int .i64 0)]) ?_
    rfl
  have hk' : k < acs.length := by simpa using h
  obtain ⟨a, ha⟩ := nth hk'
  have hat := Ac.at ha
  have hb1 := hTb hW ha
  have hs1 := hTs hW ha
  have has := hos a (List.mem_of_getElem? ha)
  have hone1 := hone a
  have hac := hact a.name
  have hsm := fun b => hsame a.msg b
  replace hE := hE a
  replace hF := hF a
  replace hbad := hbad a
  replace hM := hM a
  replace hs0 := hs0 a
  replace hsn := @hsn a
  replace hsa := hsa a
  replace hplan := hplan a
  have hu0 := used_nil a
  have hput := fun ns m s (h : Used a ns m) => Used.put h s
  have hlook : ∀ ns m (i : Int), Used a ns m → (mget i m).getD (.lit (.bool false)) = .lit (.bool (isUsed a ns i)) := fun ns m i h => h i
  have hyes := @lostTo_yes a
  have hno := @lostTo_no a
  have hll := lostTo_len a
  have hl0 : ∀ ns, lostTo a ns 0 = [] := fun _ => rfl
  generalize Used a = U at *
  generalize isUsed a = iU at *
  generalize lostTo a = lT at *
  generalize fE a = fE at *
  generalize fM a = fM at *
  generalize bad a = bad at *
  generalize fT a = fT at *
  clear h ha hW hTb hTs hTe hact hos hone
  obtain ⟨an, ans, ays, ⟨ak, am, al⟩, ⟨bk, bn, bt, bns, bys, bl, brs, bp⟩⟩ := a
  dsimp only at *
  repeat (first | refine gG ?_ | refine zN1 (fun hlen => ?_) | refine zN2 (fun hlen => ?_) | refine zSub ?_ | refine zAl (fun _ => ?_) | refine zBf ?_ | refine zAp (fun _ => ?_))
  refine zIx (k) (hk') ?_
  repeat (first | refine gG ?_ | refine zN1 (fun hlen => ?_) | refine zN2 (fun hlen => ?_) | refine zSub ?_ | refine zAl (fun _ => ?_) | refine zBx (fun _ => ?_) | refine zAp (fun _ => ?_))
  refine zEl (hat) (Ac.ts_len _) ?_
  repeat (first | refine gG ?_ | refine zN1 (fun hlen => ?_) | refine zN2 (fun hlen => ?_) | refine zSub ?_ | refine zAl (fun _ => ?_) | refine zBf ?_ | refine zAp (fun _ => ?_))
  refine x_frzb hX 9 (Ac.ts ⟨an, ans, ays, .mk ak am al, .mk bk bn bt bns bys bl brs bp⟩) ?_
  repeat (first | refine gG ?_ | refine zN1 (fun hlen => ?_) | refine zN2 (fun hlen => ?_) | refine zSub ?_ | refine zAl (fun _ => ?_) | refine zBf ?_ | refine zAp (fun _ => ?_))
  refine x_loop [10, 28, 29, 30, 31, 32, 33, 34, 35, 36, 37, 38, 39, 40, 41, 42, 43, 44, 45] (fun q : Nat => [(10, .c (.lit (.int .i64 (q : Nat))))]) (fun _ => [.box b0 78 [.c (.lit (.slice none 0 0))], .box b1 78 [.own 2 v], .row v 129 4 ms.length (ms.flatMap Mov.ts), .dead])
    (fun q => q ≤ bcs.length ∧ GoodTo (fun x : Ac => decide (x.name = an)) bcs q) (fun q => bcs.length - q) 0 ⟨Nat.zero_le _, goodTo_zero _ _⟩ ⟨rfl, trivial⟩ rfl ?_
  rintro q ⟨hq, hG⟩
  by_cases hql : q < bcs.length
  rotate_left
  · obtain rfl : q = bcs.length := by omega
    have hr := hac.trans (goodTo_end hG)
    rw [hone1, hr] at hb1
    have hr := hb1 (by show (4 : Int) ≠ 0; omega)
    rw [hr]
    have dq : decide (((bcs.length : Nat) : Int) < ((bcs.length : Nat) : Int)) = false := decide_eq_false (by omega)
    have de : decide (((bcs.length : Nat) : Int) = ((bcs.length : Nat) : Int)) = true := decide_eq_true rfl
    have hnf := no_af 4
    clear hr hG hb1 hs1 hone1 hac hsm hplan hws hsame hE hF hbad hM hs0 hsn hsa hfirst hu0 hput hlook hyes hno hll hl0 hql
    repeat (first | refine gG ?_ | refine zN1 (fun hlen => ?_) | refine zN2 (fun hlen => ?_) | refine zSub ?_ | refine zAl (fun _ => ?_) | refine zBf ?_ | refine zAp (fun _ => ?_))
    refine ac_draw [1, 1, 1, 1, 1, 1, 1, 1, 1, 1, 1, 1, 1, 1, 1, 1] [0, 1, 2, 3, 4, 5, 6, 7, 8, 9, 10, 11, 12, 13, 14, 15] (by kernel_rfl) (by kernel_rfl) ?_
    refine gW ?_
    refine w_nil ?_
    repeat (first | refine gG ?_ | refine zN1 (fun hlen => ?_) | refine zN2 (fun hlen => ?_) | refine zSub ?_ | refine zAl (fun _ => ?_) | refine zBf ?_ | refine zAp (fun _ => ?_))
    refine zCall (hnf) ?_
    rintro _ rfl
    repeat (first | refine gG ?_ | refine zN1 (fun hlen => ?_) | refine zN2 (fun hlen => ?_) | refine zSub ?_ | refine zAl (fun _ => ?_) | refine zBf ?_ | refine zAp (fun _ => ?_))
    first | refine zR (ts := [wayT [], .lit (.int .i64 4)]) ?_ | refine zQ (ts := [wayT [], .lit (.int .i64 4)]) ?_
    rfl
  have dq : decide (((q : Nat) : Int) < ((bcs.length : Nat) : Int)) = true := decide_eq_true (by omega)
  have de : decide (((q : Nat) : Int) = ((bcs.length : Nat) : Int)) = false := decide_eq_false (by omega)
  obtain ⟨b, hb⟩ := nth hql
  have hbt := Ac.at hb
  have p0 : (bcs.flatMap Ac.ts)[q * 14 + 0]? = some (.lit (.string b.name)) := partAt Ac.ts_len hb (j := 0) (t := .lit (.string b.name)) rfl
  cases dn : decide (b.name = an)
  · have hG1 := goodTo_step hG hb dn
    clear hG hb hbt hb1 hs1 hone1 hac hsm hplan hws hsame hE hF hbad hM hs0 hsn hsa hfirst hu0 hput hlook hyes hno hll hl0
    repeat (first | refine gG ?_ | refine zN1 (fun hlen => ?_) | refine zN2 (fun hlen => ?_) | refine zSub ?_ | refine zAl (fun _ => ?_) | refine zBf ?_ | refine zAp (fun _ => ?_))
    refine ac_draw [1, 1, 1, 1, 1, 1, 1, 1, 1, 1, 1, 1, 1, 1, 1, 1] [0, 1, 2, 3, 4, 5, 6, 7, 8, 9, 10, 11, 12, 13, 14, 15] (by kernel_rfl) (by kernel_rfl) ?_
    refine gW ?_
    try (first | (apply w_un; (focus exact rfl); (focus exact rfl); (focus exact rfl); (focus exact rfl)) | (apply w_no; (focus exact rfl); (focus exact rfl); (focus exact rfl); (focus exact rfl); focus (first | rfl | assumption | exact neg_t (by assumption) | exact neg_f (by assumption))) | (apply w_qg; (focus exact rfl); (focus exact rfl); (focus exact rfl); (focus exact rfl); (focus (first | rfl | assumption | exact neg_t (by assumption) | exact neg_f (by assumption))); (focus (intro _; (refine zIx q hql ?_); exact det_refl))))
    try refine gW ?_
    try (first | (apply w_un; (focus exact rfl); (focus exact rfl); (focus exact rfl); (focus exact rfl)) | (apply w_no; (focus exact rfl); (focus exact rfl); (focus exact rfl); (focus exact rfl); focus (first | rfl | assumption | exact neg_t (by assumption) | exact neg_f (by assumption))) | (apply w_qg; (focus exact rfl); (focus exact rfl); (focus exact rfl); (focus exact rfl); (focus (first | rfl | assumption | exact neg_t (by assumption) | exact neg_f (by assumption))); (focus (intro _; (refine zEl1 p0 ?_); exact det_refl))))
    try refine gW ?_
    refine w_nil ?_
    repeat (first | refine gG ?_ | refine zN1 (fun hlen => ?_) | refine zN2 (fun hlen => ?_) | refine zSub ?_ | refine zAl (fun _ => ?_) | refine zBf ?_ | refine zAp (fun _ => ?_))
    exact ⟨q + 1, ⟨hql, hG1⟩, by omega, x_wkd 4 ⟨rfl, trivial⟩ rfl (by repeat (first | exact ag_refl | refine ag_upd rfl ?_ | refine ag_at rfl rfl ?_))⟩
  have hr := hac.trans (goodTo_bad hG hb dn)
  have hbs := hws b (List.mem_of_getElem? hb)
  rw [hone1, hr] at hb1 hs1
  have hsb := hsm b.msg
  have hpl := hplan b
  have hy1 := @hyes b.names
  have hn1 := @hno b.names
  have hl1 := hll b.names
  have hl2 := hl0 b.names
  clear hone1 hr hac hG hb hws hsm hplan hyes hno hll hl0
  obtain ⟨cn, cns, cys, ⟨ck, cm, cl⟩, ⟨dk, dn', dt, dns, dys, dl, drs, dp⟩⟩ := b
  dsimp only at *
  obtain rfl : an = cn := (of_decide_eq_true dn).symm
  repeat (first | refine gG ?_ | refine zN1 (fun hlen => ?_) | refine zN2 (fun hlen => ?_) | refine zSub ?_ | refine zAl (fun _ => ?_) | refine zBf ?_ | refine zAp (fun _ => ?_))
  refine ac_draw [1, 1, 1, 1, 1, 1, 1, 1, 1, 1, 1, 1, 1, 1, 1, 1] [0, 1, 2, 3, 4, 5, 6, 7, 8, 9, 10, 11, 12, 13, 14, 15] (by kernel_rfl) (by kernel_rfl) ?_
  refine gW ?_
  try (first | (apply w_un; (focus exact rfl); (focus exact rfl); (focus exact rfl); (focus exact rfl)) | (apply w_no; (focus exact rfl); (focus exact rfl); (focus exact rfl); (focus exact rfl); focus (first | rfl | assumption | exact neg_t (by assumption) | exact neg_f (by assumption))) | (apply w_qg; (focus exact rfl); (focus exact rfl); (focus exact rfl); (focus exact rfl); (focus (first | rfl | assumption | exact neg_t (by assumption) | exact neg_f (by assumption))); (focus (intro _; (refine zIx q hql ?_); exact det_refl))))
  try refine gW ?_
  try (first | (apply w_un; (focus exact rfl); (focus exact rfl); (focus exact rfl); (focus exact rfl)) | (apply w_no; (focus exact rfl); (focus exact rfl); (focus exact rfl); (focus exact rfl); focus (first | rfl | assumption | exact neg_t (by assumption) | exact neg_f (by assumption))) | (apply w_qg; (focus exact rfl); (focus exact rfl); (focus exact rfl); (focus exact rfl); (focus (first | rfl | assumption | exact neg_t (by assumption) | exact neg_f (by assumption))); (focus (intro _; (refine zEl1 p0 ?_); exact det_refl))))
  try refine gW ?_
  refine w_nil ?_
  repeat (first | refine gG ?_ | refine zN1 (fun hlen => ?_) | refine zN2 (fun hlen => ?_) | refine zSub ?_ | refine zAl (fun _ => ?_) | refine zBf ?_ | refine zAp (fun _ => ?_))
  refine zIx (q) (hql) ?_
  repeat (first | refine gG ?_ | refine zN1 (fun hlen => ?_) | refine zN2 (fun hlen => ?_) | refine zSub ?_ | refine zAl (fun _ => ?_) | refine zBx (fun _ => ?_) | refine zAp (fun _ => ?_))
  refine zEl (hbt) (Ac.ts_len _) ?_
  repeat (first | refine gO ?_ | refine zN1 (fun hlen => ?_) | refine zN2 (fun hlen => ?_) | refine zSub ?_ | refine zAl (fun _ => ?_) | refine zBf ?_ | refine zAp (fun _ => ?_))
  refine x_frzb hX 11 (Ac.ts ⟨an, cns, cys, .mk ck cm cl, .mk dk dn' dt dns dys dl drs dp⟩) ?_
  cases d1 : decide ((ans.length : Int) = (ays.length : Int))
  · have hne : ¬ ays.length = ans.length := by have := of_decide_eq_false d1; omega
    rw [decide_eq_false hne] at hb1
    have hr := hb1 (by show (3 : Int) ≠ 0; omega)
    rw [hr]
    clear hr hb1 hs1 hpl hsb hsame hE hF hbad hM hs0 hsn hsa hfirst hu0 hput hlook hy1 hn1 hl1 hl2
    have hnf := no_af 3
    repeat (first | refine gG ?_ | refine zN1 (fun hlen => ?_) | refine zN2 (fun hlen => ?_) | refine zSub ?_ | refine zAl (fun _ => ?_) | refine zBf ?_ | refine zAp (fun _ => ?_))
    refine zCall (hnf) ?_
    rintro _ rfl
    repeat (first | refine gG ?_ | refine zN1 (fun hlen => ?_) | refine zN2 (fun hlen => ?_) | refine zSub ?_ | refine zAl (fun _ => ?_) | refine zBf ?_ | refine zAp (fun _ => ?_))
    first | refine zR (ts := [wayT [], .lit (.int .i64 3)]) ?_ | refine zQ (ts := [wayT [], .lit (.int .i64 3)]) ?_
    rfl
  have he1 : ays.length = ans.length := by have := of_decide_eq_true d1; omega
  rw [decide_eq_true he1] at hb1 hs1
  cases d2 : decide ((cns.length : Int) = (cys.length : Int))
  · have hne : ¬ cys.length = cns.length := by have := of_decide_eq_false d2; omega
    rw [decide_eq_false hne] at hb1
    have hr := hb1 (by show (3 : Int) ≠ 0; omega)
    rw [hr]
    clear hr hb1 hs1 hpl hsb hsame hE hF hbad hM hs0 hsn hsa hfirst hu0 hput hlook hy1 hn1 hl1 hl2
    have hnf := no_af 3
    repeat (first | refine gG ?_ | refine zN1 (fun hlen => ?_) | refine zN2 (fun hlen => ?_) | refine zSub ?_ | refine zAl (fun _ => ?_) | refine zBf ?_ | refine zAp (fun _ => ?_))
    refine zCall (hnf) ?_
    rintro _ rfl
    repeat (first | refine gG ?_ | refine zN1 (fun hlen => ?_) | refine zN2 (fun hlen => ?_) | refine zSub ?_ | refine zAl (fun _ => ?_) | refine zBf ?_ | refine zAp (fun _ => ?_))
    first | refine zR (ts := [wayT [], .lit (.int .i64 3)]) ?_ | refine zQ (ts := [wayT [], .lit (.int .i64 3)]) ?_
    rfl
  have he2 : cys.length = cns.length := by have := of_decide_eq_true d2; omega
  rw [decide_eq_true he2] at hb1 hs1
  simp only [Bool.not_true, Bool.or_self, cond_false] at hb1 hs1
  cases hz : sB (.mk ak am al) (.mk ck cm cl)
  · rw [hz] at hb1 hsb
    have hr := hb1 (by show (12 : Int) ≠ 0; omega)
    rw [hr]
    clear hr hb1 hs1 hpl hsame hE hF hbad hM hs0 hsn hsa hfirst hu0 hput hlook hy1 hn1 hl1 hl2
    repeat (first | refine gG ?_ | refine zN1 (fun hlen => ?_) | refine zN2 (fun hlen => ?_) | refine zSub ?_ | refine zAl (fun _ => ?_) | refine zBf ?_ | refine zAp (fun _ => ?_))
    refine zCall (hsb) ?_
    rintro _ rfl
    have hnf := no_af 12
    repeat (first | refine gG ?_ | refine zN1 (fun hlen => ?_) | refine zN2 (fun hlen => ?_) | refine zSub ?_ | refine zAl (fun _ => ?_) | refine zBf ?_ | refine zAp (fun _ => ?_))
    refine zCall (hnf) ?_
    rintro _ rfl
    repeat (first | refine gG ?_ | refine zN1 (fun hlen => ?_) | refine zN2 (fun hlen => ?_) | refine zSub ?_ | refine zAl (fun _ => ?_) | refine zBf ?_ | refine zAp (fun _ => ?_))
    first | refine zR (ts := [wayT [], .lit (.int .i64 12)]) ?_ | refine zQ (ts := [wayT [], .lit (.int .i64 12)]) ?_
    rfl
  rw [hz] at hb1 hs1 hsb
  simp only [Bool.not_true, cond_false] at hb1 hs1
  rw [hpl] at hb1 hs1
  clear hpl hz
  have hzl : (cns.zip cys).length = cns.length := by rw [List.length_zip]; omega
  repeat (first | refine gG ?_ | refine zN1 (fun hlen => ?_) | refine zN2 (fun hlen => ?_) | refine zSub ?_ | refine zAl (fun _ => ?_) | refine zBf ?_ | refine zAp (fun _ => ?_))
  refine zCall (hsb) ?_
  rintro _ rfl
  clear hsb
  repeat (first | refine gG ?_ | refine zN1 (fun hlen => ?_) | refine zN2 (fun hlen => ?_) | refine zSub ?_ | refine zAl (fun _ => ?_) | refine zBf ?_ | refine zAp (fun _ => ?_))
  refine zMm (fun bm => ?_)
  repeat (first | refine gG ?_ | refine zN1 (fun hlen => ?_) | refine zN2 (fun hlen => ?_) | refine zSub ?_ | refine zAl (fun _ => ?_) | refine zBf ?_ | refine zAp (fun _ => ?_))
  rename_i b5
  refine x_own_cell 5 2 150 5 rfl rfl rfl rfl rfl rfl ?_
  refine x_own_cell 5 3 3 1 rfl rfl rfl rfl rfl rfl ?_
  refine x_loop [5, 14, 15, 16, 17, 18, 19, 102, 103, 104, 105, 106, 107, 108, 109, 110, 111, 112, 113, 114, 115, 116, 117, 118, 119, 120, 121, 122, 123, 124, 125, 126, 127, 128, 129, 130, 131, 132, 133, 134, 135, 136, 137, 138, 139, 140, 141, 142, 143, 144, 145, 146, 147, 148, 149, 150, 151, 152, 153, 154, 155, 156, 157, 158, 159, 160, 161, 162, 163, 164, 165, 166, 167, 168, 169, 170, 171, 172, 173, 174] (fun y : Nat × List (Int × T) × Value => [(102, .c (.lit (.int .i64 (y.1 : Nat))))]) (fun y => [.box b0 78 [.c (.lit (.slice none 0 0))], .box b1 78 [.own 2 v], .row v 129 4 ms.length (ms.flatMap Mov.ts), .dead, .dead, .box b5 129 [.c (.lit (.string an)), .c (.lit (.int .i64 (ans.length : Nat))), .own 7 y.2.2, .own 8 (.slice none 0 0)], .mp bm (mkeys (Value.int .i64) y.2.1), .row y.2.2 150 5 y.1 (fT (cns.zip cys) y.1), .row (.slice none 0 0) 3 1 0 []])
    (fun y => y.1 ≤ cns.length ∧ U (cns.take y.1) y.2.1 ∧ GoodTo bad (cns.zip cys) y.1) (fun y => cns.length - y.1) (0, [], .slice none 0 0) ⟨Nat.zero_le _, hu0, goodTo_zero _ _⟩ ⟨rfl, trivial⟩ (by simp only [hs0]; rfl) ?_
  clear hu0 hs0
  rintro ⟨i, m, vf⟩ ⟨hi, hU, hG⟩
  dsimp only at hi hU hG ⊢
  repeat (first | refine gG ?_ | refine zN1 (fun hlen => ?_) | refine zN2 (fun hlen => ?_) | refine zSub ?_ | refine zAl (fun _ => ?_) | refine zBf ?_ | refine zAp (fun _ => ?_))
  refine x_cond rfl (fun h => ?_) (fun h => ?_)
  rotate_left
  · have hi' : i = cns.length := by have : ¬ i < cns.length := by simpa using h
                                    omega
    subst hi'
    have hfn := goodTo_end (by rw [hzl]; exact hG)
    rw [hfn] at hs1
    have hs2 := hs1 rfl
    rw [List.take_length] at hU
    have hsa1 := hsa (cns.zip cys)
    rw [hzl] at hsa1
    have hlk := fun i => hlook cns m i hU
    clear h hG hfn hput hM hlook hsa hbad hE hF hfirst hsame hsn hU hb1 hs1
    repeat (first | refine gG ?_ | refine zN1 (fun hlen => ?_) | refine zN2 (fun hlen => ?_) | refine zSub ?_ | refine zAl (fun _ => ?_) | refine zBf ?_ | refine zAp (fun _ => ?_))
    refine x_loop [20, 178, 179, 180, 181, 182, 183, 184, 185, 186, 187, 188, 189, 190, 191] (fun y : Nat × Value => [(178, .c (.lit (.int .i64 (y.1 : Nat))))]) (fun y => [.box b0 78 [.c (.lit (.slice none 0 0))], .box b1 78 [.own 2 v], .row v 129 4 ms.length (ms.flatMap Mov.ts), .dead, .dead, .box b5 129 [.c (.lit (.string an)), .c (.lit (.int .i64 (ans.length : Nat))), .own 7 vf, .own 8 y.2], .mp bm (mkeys (Value.int .i64) m), .row vf 150 5 cns.length (fT (cns.zip cys) cns.length), .row y.2 3 1 (lT cns y.1).length ((lT cns y.1).flatMap intTs)])
      (fun y => y.1 ≤ ans.length) (fun y => ans.length - y.1) (0, .slice none 0 0) (Nat.zero_le _) ⟨rfl, trivial⟩ (by simp only [hl2]; rfl) ?_
    clear hl2
    rintro ⟨j, v2⟩ hj
    dsimp only at hj ⊢
    have hll1 := hl1 j
    clear hl1
    repeat (first | refine gG ?_ | refine zN1 (fun hlen => ?_) | refine zN2 (fun hlen => ?_) | refine zSub ?_ | refine zAl (fun _ => ?_) | refine zBf ?_ | refine zAp (fun _ => ?_))
    refine x_cond rfl (fun h => ?_) (fun h => ?_)
    · have hj' : j < ans.length := by simpa using h
      have hlk1 := hlk (j : Int)
      have hy1 := @hy1 j
      have hn1 := @hn1 j
      clear hsa1 hlk h hs2
      cases hq : iU cns ((j : Nat) : Int)
      · replace hn1 := hn1 hq
        rw [hq] at hlk1
        clear hy1 hq
        repeat (first | refine gG ?_ | refine zN1 (fun hlen => ?_) | refine zN2 (fun hlen => ?_) | refine zSub ?_ | refine zAl (fun _ => ?_) | refine zBf ?_ | refine zAp (fun _ => ?_))
        refine zLki 3 4 hlk1 ?_
        repeat (first | refine gG ?_ | refine zN1 (fun hlen => ?_) | refine zN2 (fun hlen => ?_) | refine zSub ?_ | refine zAl (fun _ => ?_) | refine zBf ?_ | refine zAp (fun _ => ?_))
        exact ⟨(j + 1, _), hj', by simp only; omega, x_wkd 9 ⟨rfl, trivial⟩ (by simp only [hn1, List.flatMap_append, List.length_append]; rfl) (by repeat (first | exact ag_refl | refine ag_upd rfl ?_ | refine ag_at rfl rfl ?_))⟩
      · replace hy1 := hy1 hq
        rw [hq] at hlk1
        clear hn1 hq
        repeat (first | refine gG ?_ | refine zN1 (fun hlen => ?_) | refine zN2 (fun hlen => ?_) | refine zSub ?_ | refine zAl (fun _ => ?_) | refine zBf ?_ | refine zAp (fun _ => ?_))
        refine zLki 3 4 hlk1 ?_
        repeat (first | refine gG ?_ | refine zN1 (fun hlen => ?_) | refine zN2 (fun hlen => ?_) | refine zSub ?_ | refine zAl (fun _ => ?_) | refine zBf ?_ | refine zAp (fun _ => ?_))
        exact ⟨(j + 1, v2), hj', by simp only; omega, x_wkd 9 ⟨rfl, trivial⟩ (by simp only [hy1]; rfl) (by repeat (first | exact ag_refl | refine ag_upd rfl ?_ | refine ag_at rfl rfl ?_))⟩
    · have hj' : j = ans.length := by have : ¬ j < ans.length := by simpa using h
                                      omega
      subst hj'
      clear h hlk hy1 hn1
      refine x_fzc 5 2 ?_
      refine x_fzc 5 3 ?_
      have hlen1 : ms.length ≤ 1048576 := by omega
      have hmv : Mov.ts ⟨an, (ans.length : Nat), (cns.zip cys).map fM, lT cns ans.length⟩ = [.lit (.string an), .lit (.int .i64 (ans.length : Nat)), .row cns.length 5 (fT (cns.zip cys) cns.length), .row (lT cns ans.length).length 1 ((lT cns ans.length).flatMap intTs)] := by
        rw [hsa1]
        simp only [Mov.ts, fldRow, intRow, List.length_map, hzl]
      clear hsa1
      repeat (first | refine gG ?_ | refine zN1 (fun hlen => ?_) | refine zN2 (fun hlen => ?_) | refine zSub ?_ | refine zAl (fun _ => ?_) | refine zBf ?_ | refine zAp (fun _ => ?_))
      exact ⟨(k + 1, _, ms ++ [⟨an, (ans.length : Nat), (cns.zip cys).map fM, lT cns ans.length⟩]), ⟨hk', by simp [hml], hs2⟩, by simp only; omega, x_wkd 3 ⟨rfl, trivial⟩ (by simp only [List.flatMap_append, List.length_append, List.flatMap_cons, List.flatMap_nil, List.append_nil, hmv]; rfl) (by repeat (first | exact ag_refl | refine ag_upd rfl ?_ | refine ag_at rfl rfl ?_))⟩
  have hi' : i < cns.length := by simpa using h
  have hiy : i < cys.length := by omega
  obtain ⟨s, hs⟩ := nth hi'
  obtain ⟨y, hy⟩ := nth hiy
  have hz := zip_nth hs hy
  have hst : (cns.flatMap strTs)[i * 1]? = some (.lit (.string s)) := by rw [Nat.mul_one]; exact str_at hs
  have hyt := Y.at hy
  have hpt := hput _ m s hU
  rw [← take_snoc' hs] at hpt
  have hsn1 := hsn hz
  rw [hM] at hsn1
  have hgs := goodTo_step hG hz
  have hgb := goodTo_bad hG hz
  have hbd := hbad (s, y)
  have hE1 := hE s y
  have hF1 := hF s y
  have hv := hfirst y
  have hsm := fun z => hsame z y
  have hlt1 := @posOf_lt s ans
  have hpe := posFrom_end s ans
  have hph := fun j => @posFrom_hit s ans j
  have hpm := fun j a => @posFrom_miss s a ans j
  have hpz := posFrom_zero s ans
  clear h hs hy hz hU hG hput hM hlook hsa hl2 hbad hE hF hfirst hsame hsn hy1 hn1 hl1
  obtain ⟨yk, yn, yl⟩ := y
  generalize hpf : posFrom s ans = pf at *
  clear hpf
  repeat (first | refine gG ?_ | refine zN1 (fun hlen => ?_) | refine zN2 (fun hlen => ?_) | refine zSub ?_ | refine zAl (fun _ => ?_) | refine zBf ?_ | refine zAp (fun _ => ?_))
  refine zIx i hi' ?_
  repeat (first | refine gG ?_ | refine zN1 (fun hlen => ?_) | refine zN2 (fun hlen => ?_) | refine zSub ?_ | refine zAl (fun _ => ?_) | refine zBf ?_ | refine zAp (fun _ => ?_))
  refine zEl1 hst ?_
  repeat (first | refine gG ?_ | refine zN1 (fun hlen => ?_) | refine zN2 (fun hlen => ?_) | refine zSub ?_ | refine zAl (fun _ => ?_) | refine zBf ?_ | refine zAp (fun _ => ?_))
  rename_i b9
  refine x_loop [17, 112, 113, 114, 115, 116, 117, 118, 119, 120, 121, 122, 123, 124] (fun y : Int × Int => [(17, .c (.lit (.int .i64 y.1)))]) (fun y => [.box b0 78 [.c (.lit (.slice none 0 0))], .box b1 78 [.own 2 v], .row v 129 4 ms.length (ms.flatMap Mov.ts), .dead, .dead, .box b5 129 [.c (.lit (.string an)), .c (.lit (.int .i64 (ans.length : Nat))), .own 7 vf, .own 8 (.slice none 0 0)], .mp bm (mkeys (Value.int .i64) m), .row vf 150 5 i (fT (cns.zip cys) i), .row (.slice none 0 0) 3 1 0 [], .box b9 150 [.c (.lit (.int .i64 y.2)), .c (.lit (.int .i64 0)), .c (.lit (.int .i64 0)), .c (.lit (.string ⟨#[]⟩)), .c (.lit (.slice none 0 0))]])
    (fun y => -1 ≤ y.1 ∧ y.1 < ans.length ∧ y.2 = pf (y.1 + 1).toNat) (fun y => (y.1 + 1).toNat) ((ans.length : Int) - 1, -1) ⟨by omega, by omega, by show (-1 : Int) = pf (((ans.length : Int) - 1) + 1).toNat; rw [show (((ans.length : Int) - 1) + 1).toNat = ans.length by omega, hpe]⟩ ⟨rfl, trivial⟩ rfl ?_
  clear hpe
  rintro ⟨z, x⟩ ⟨hz1, hz2, hx⟩
  dsimp only at hz1 hz2 hx ⊢
  repeat (first | refine gG ?_ | refine zN1 (fun hlen => ?_) | refine zN2 (fun hlen => ?_) | refine zSub ?_ | refine zAl (fun _ => ?_) | refine zBf ?_ | refine zAp (fun _ => ?_))
  refine x_cond rfl (fun h => ?_) (fun h => ?_)
  · have hz0 : 0 ≤ z := by simpa using h
    obtain ⟨j, rfl⟩ : ∃ j : Nat, z = (j : Int) := ⟨z.toNat, by omega⟩
    have hjl : j < ans.length := by omega
    obtain ⟨r, hr⟩ := nth hjl
    have hrt : (ans.flatMap strTs)[j * 1]? = some (.lit (.string r)) := by rw [Nat.mul_one]; exact str_at hr
    have hj1 : (((j : Nat) : Int) + 1).toNat = j + 1 := by omega
    have hj0 : (((j : Nat) : Int) - 1 + 1).toNat = j := by omega
    rw [hj1] at hx
    cases dr : decide (r = s)
    · have hx1 : x = pf (((j : Nat) : Int) - 1 + 1).toNat := by rw [hj0, hx]; exact (hpm j r hr (of_decide_eq_false dr)).symm
      clear h hr hz0 hb1 hs1 hsn1 hgs hgb hbd hE1 hF1 hv hsm hlt1 hph hpm hpz hpt hx
      repeat (first | refine gG ?_ | refine zN1 (fun hlen => ?_) | refine zN2 (fun hlen => ?_) | refine zSub ?_ | refine zAl (fun _ => ?_) | refine zBf ?_ | refine zAp (fun _ => ?_))
      refine zIx j hjl ?_
      repeat (first | refine gG ?_ | refine zN1 (fun hlen => ?_) | refine zN2 (fun hlen => ?_) | refine zSub ?_ | refine zAl (fun _ => ?_) | refine zBf ?_ | refine zAp (fun _ => ?_))
      refine zEl1 hrt ?_
      repeat (first | refine gG ?_ | refine zN1 (fun hlen => ?_) | refine zN2 (fun hlen => ?_) | refine zSub ?_ | refine zAl (fun _ => ?_) | refine zBf ?_ | refine zAp (fun _ => ?_))
      exact ⟨(((j : Nat) : Int) - 1, x), ⟨by omega, by omega, hx1⟩, by simp only; omega, x_wkd 10 ⟨rfl, trivial⟩ rfl (by repeat (first | exact ag_refl | refine ag_upd rfl ?_ | refine ag_at rfl rfl ?_))⟩
    · have hx1 : ((j : Nat) : Int) = pf (((j : Nat) : Int) - 1 + 1).toNat := by rw [hj0]; exact (hph j (by rw [hr, of_decide_eq_true dr])).symm
      clear h hr hz0 hb1 hs1 hsn1 hgs hgb hbd hE1 hF1 hv hsm hlt1 hph hpm hpz hpt hx
      repeat (first | refine gG ?_ | refine zN1 (fun hlen => ?_) | refine zN2 (fun hlen => ?_) | refine zSub ?_ | refine zAl (fun _ => ?_) | refine zBf ?_ | refine zAp (fun _ => ?_))
      refine zIx j hjl ?_
      repeat (first | refine gG ?_ | refine zN1 (fun hlen => ?_) | refine zN2 (fun hlen => ?_) | refine zSub ?_ | refine zAl (fun _ => ?_) | refine zBf ?_ | refine zAp (fun _ => ?_))
      refine zEl1 hrt ?_
      repeat (first | refine gG ?_ | refine zN1 (fun hlen => ?_) | refine zN2 (fun hlen => ?_) | refine zSub ?_ | refine zAl (fun _ => ?_) | refine zBf ?_ | refine zAp (fun _ => ?_))
      exact ⟨(((j : Nat) : Int) - 1, ((j : Nat) : Int)), ⟨by omega, by omega, hx1⟩, by simp only; omega, x_wkd 10 ⟨rfl, trivial⟩ rfl (by repeat (first | exact ag_refl | refine ag_upd rfl ?_ | refine ag_at rfl rfl ?_))⟩
  have hz0 : ¬ 0 ≤ z := by simpa using h
  obtain rfl : z = -1 := by omega
  have hxp : x = posOf s ans := by rw [hx, ← hpz]; rfl
  clear h hz0 hz1 hz2 hx hph hpm hpz
  rw [← hxp] at hE1 hlt1 hpt hsn1
  rw [← hxp] at hF1
  clear hxp
  by_cases hneg : x < 0
  · have d3 : decide (x < 0) = true := decide_eq_true hneg
    have hE2 := hE1 hneg
    clear hE1 hF1 hlt1 hsm
    cases hl : ls (.mk yk yn yl) with
    | none =>
      rw [hl] at hv hE2
      dsimp only [codeV, Option.getD] at hv hE2
      have hfd := hgb (by rw [hbd, hE2]; rfl)
      rw [hfd] at hb1
      dsimp only at hb1
      rw [hE2] at hb1
      have hr := hb1 (by show (8 : Int) ≠ 0; omega)
      rw [hr]
      generalize V0 = gv at hv
      obtain ⟨gk, gn, gt, gl⟩ := gv
      clear hgs hgb hbd hE2 hfd hsn1 hpt hl hb1 hs1 hr
      repeat (first | refine gG ?_ | refine zN1 (fun hlen => ?_) | refine zN2 (fun hlen => ?_) | refine zSub ?_ | refine zAl (fun _ => ?_) | refine zBf ?_ | refine zAp (fun _ => ?_))
      refine ac_draw [1, 1, 1, 1, 1, 1, 1, 1, 1, 0, 3, 2, 0] [0, 1, 2, 3, 4, 5, 6, 7, 8, 9, 10, 11, 12] (by kernel_rfl) (by kernel_rfl) ?_
      refine gW ?_
      apply w_q; (focus exact rfl); (focus exact rfl); focus (intro _; (refine zIx i hiy ?_); exact det_refl)
      apply w_q; (focus exact rfl); (focus exact rfl); focus (intro _; (refine zEl hyt (Y.ts_len _) ?_); exact det_refl)
      apply w_q; (focus exact rfl); (focus exact rfl); focus (intro _; (refine zCall hv ?_; rintro _ rfl); exact det_refl)
      refine gW ?_
      apply w_a; (focus exact rfl); (focus exact rfl); refine v_alloc tok rfl rfl rfl (fun _ => rfl) (fun _ => ⟨⟨_, rfl⟩, ?_⟩)
      apply w_l; (focus exact rfl); (focus exact rfl); (refine zS ?_)
      refine gW ?_
      refine w_nil ?_
      have hnf := no_af 8
      repeat (first | refine gG ?_ | refine zN1 (fun hlen => ?_) | refine zN2 (fun hlen => ?_) | refine zSub ?_ | refine zAl (fun _ => ?_) | refine zBf ?_ | refine zAp (fun _ => ?_))
      refine zCall (hnf) ?_
      rintro _ rfl
      repeat (first | refine gG ?_ | refine zN1 (fun hlen => ?_) | refine zN2 (fun hlen => ?_) | refine zSub ?_ | refine zAl (fun _ => ?_) | refine zBf ?_ | refine zAp (fun _ => ?_))
      first | refine zR (ts := [wayT [], .lit (.int .i64 8)]) ?_ | refine zQ (ts := [wayT [], .lit (.int .i64 8)]) ?_
      rfl
    | some g =>
      rw [hl] at hv hE2
      dsimp only [codeV, Option.getD] at hv hE2
      have hg1 := hgs (by rw [hbd, hE2]; rfl)
      rw [hE2] at hsn1
      obtain ⟨gk, gn, gt, gl⟩ := g
      clear hgs hgb hbd hE2 hl hb1 hs1
      repeat (first | refine gG ?_ | refine zN1 (fun hlen => ?_) | refine zN2 (fun hlen => ?_) | refine zSub ?_ | refine zAl (fun _ => ?_) | refine zBf ?_ | refine zAp (fun _ => ?_))
      refine ac_draw [1, 1, 1, 1, 1, 1, 1, 1, 1, 0, 3, 2, 0] [0, 1, 2, 3, 4, 5, 6, 7, 8, 9, 10, 11, 12] (by kernel_rfl) (by kernel_rfl) ?_
      refine gW ?_
      apply w_q; (focus exact rfl); (focus exact rfl); focus (intro _; (refine zIx i hiy ?_); exact det_refl)
      apply w_q; (focus exact rfl); (focus exact rfl); focus (intro _; (refine zEl hyt (Y.ts_len _) ?_); exact det_refl)
      apply w_q; (focus exact rfl); (focus exact rfl); focus (intro _; (refine zCall hv ?_; rintro _ rfl); exact det_refl)
      refine gW ?_
      apply w_a; (focus exact rfl); (focus exact rfl); refine v_alloc tok rfl rfl rfl (fun _ => rfl) (fun _ => ⟨⟨_, rfl⟩, ?_⟩)
      apply w_l; (focus exact rfl); (focus exact rfl); (refine zS ?_)
      refine gW ?_
      refine w_nil ?_
      repeat (first | refine gG ?_ | refine zN1 (fun hlen => ?_) | refine zN2 (fun hlen => ?_) | refine zSub ?_ | refine zAl (fun _ => ?_) | refine zBf ?_ | refine zAp (fun _ => ?_))
      refine zUpi 3 4 ?_
      repeat (first | refine gG ?_ | refine zN1 (fun hlen => ?_) | refine zN2 (fun hlen => ?_) | refine zSub ?_ | refine zAl (fun _ => ?_) | refine zBf ?_ | refine zAp (fun _ => ?_))
      exact ⟨(i + 1, _, _), ⟨hi', hpt, hg1⟩, by simp only; omega, x_wkd 9 ⟨rfl, trivial⟩ (by simp only [hsn1]; rfl) (by repeat (first | exact ag_refl | refine ag_upd rfl ?_ | refine ag_at rfl rfl ?_))⟩
  · obtain ⟨j, rfl, hjl⟩ := hlt1 hneg
    have d3 : decide (((j : Nat) : Int) < 0) = false := decide_eq_false hneg
    have hjl' : j < ays.length := by omega
    obtain ⟨z, hz⟩ := nth hjl'
    have hE2 := hF1 j rfl z hz
    have hzt := Y.at hz
    have hsz := hsm z
    clear hE1 hF1 hlt1 hsm hv hneg hz
    obtain ⟨zk, zn, zl⟩ := z
    cases hq : sB (.mk zk zn zl) (.mk yk yn yl)
    · rw [hq] at hE2 hsz
      have hfd := hgb (by rw [hbd, hE2]; rfl)
      rw [hfd] at hb1
      dsimp only at hb1
      rw [hE2] at hb1
      have hr := hb1 (by show (12 : Int) ≠ 0; omega)
      rw [hr]
      clear hgs hgb hbd hE2 hfd hsn1 hpt hq hb1 hs1 hr
      repeat (first | refine gG ?_ | refine zN1 (fun hlen => ?_) | refine zN2 (fun hlen => ?_) | refine zSub ?_ | refine zAl (fun _ => ?_) | refine zBf ?_ | refine zAp (fun _ => ?_))
      refine ac_draw [1, 1, 1, 1, 1, 1, 1, 1, 1, 1, 1, 1, 1, 1, 1] [0, 1, 2, 3, 4, 5, 6, 7, 8, 9, 10, 11, 12, 13, 14] (by kernel_rfl) (by kernel_rfl) ?_
      refine gW ?_
      apply w_q; (focus exact rfl); (focus exact rfl); focus (intro _; (refine zIx j hjl' ?_); exact det_refl)
      apply w_q; (focus exact rfl); (focus exact rfl); focus (intro _; (refine zEl hzt (Y.ts_len _) ?_); exact det_refl)
      refine gW ?_
      apply w_q; (focus exact rfl); (focus exact rfl); focus (intro _; (refine zIx i hiy ?_); exact det_refl)
      apply w_q; (focus exact rfl); (focus exact rfl); focus (intro _; (refine zEl hyt (Y.ts_len _) ?_); exact det_refl)
      apply w_q; (focus exact rfl); (focus exact rfl); focus (intro _; (refine zCall hsz ?_; rintro _ rfl); exact det_refl)
      refine gW ?_
      refine w_nil ?_
      have hnf := no_af 12
      repeat (first | refine gG ?_ | refine zN1 (fun hlen => ?_) | refine zN2 (fun hlen => ?_) | refine zSub ?_ | refine zAl (fun _ => ?_) | refine zBf ?_ | refine zAp (fun _ => ?_))
      refine zCall (hnf) ?_
      rintro _ rfl
      repeat (first | refine gG ?_ | refine zN1 (fun hlen => ?_) | refine zN2 (fun hlen => ?_) | refine zSub ?_ | refine zAl (fun _ => ?_) | refine zBf ?_ | refine zAp (fun _ => ?_))
      first | refine zR (ts := [wayT [], .lit (.int .i64 12)]) ?_ | refine zQ (ts := [wayT [], .lit (.int .i64 12)]) ?_
      rfl
    · rw [hq] at hE2 hsz
      have hg1 := hgs (by rw [hbd, hE2]; rfl)
      rw [hE2] at hsn1
      clear hgs hgb hbd hE2 hq hb1 hs1
      repeat (first | refine gG ?_ | refine zN1 (fun hlen => ?_) | refine zN2 (fun hlen => ?_) | refine zSub ?_ | refine zAl (fun _ => ?_) | refine zBf ?_ | refine zAp (fun _ => ?_))
      refine ac_draw [1, 1, 1, 1, 1, 1, 1, 1, 1, 1, 1, 1, 1, 1, 1] [0, 1, 2, 3, 4, 5, 6, 7, 8, 9, 10, 11, 12, 13, 14] (by kernel_rfl) (by kernel_rfl) ?_
      refine gW ?_
      apply w_q; (focus exact rfl); (focus exact rfl); focus (intro _; (refine zIx j hjl' ?_); exact det_refl)
      apply w_q; (focus exact rfl); (focus exact rfl); focus (intro _; (refine zEl hzt (Y.ts_len _) ?_); exact det_refl)
      refine gW ?_
      apply w_q; (focus exact rfl); (focus exact rfl); focus (intro _; (refine zIx i hiy ?_); exact det_refl)
      apply w_q; (focus exact rfl); (focus exact rfl); focus (intro _; (refine zEl hyt (Y.ts_len _) ?_); exact det_refl)
      apply w_q; (focus exact rfl); (focus exact rfl); focus (intro _; (refine zCall hsz ?_; rintro _ rfl); exact det_refl)
      refine gW ?_
      refine w_nil ?_
      refine x_cells 9 [.lit (.int .i64 ((j : Nat) : Int)), .lit (.int .i64 0), .lit (.int .i64 0), .lit (.string ⟨#[]⟩), V.row []] ?_
      repeat (first | refine gG ?_ | refine zN1 (fun hlen => ?_) | refine zN2 (fun hlen => ?_) | refine zSub ?_ | refine zAl (fun _ => ?_) | refine zBf ?_ | refine zAp (fun _ => ?_))
      refine zUpi 3 4 ?_
      repeat (first | refine gG ?_ | refine zN1 (fun hlen => ?_) | refine zN2 (fun hlen => ?_) | refine zSub ?_ | refine zAl (fun _ => ?_) | refine zBf ?_ | refine zAp (fun _ => ?_))
      exact ⟨(i + 1, _, _), ⟨hi', hpt, hg1⟩, by simp only; omega, x_wkd 9 ⟨rfl, trivial⟩ (by simp only [hsn1]; rfl) (by repeat (first | exact ag_refl | refine ag_upd rfl ?_ | refine ag_at rfl rfl ?_))⟩
end Go.Proofs.Ytnkafjkcjpajgaa
namespace Go.Proofs.Ytnkafjkcjpajgaa
open Go.RowKit
def Le2 (M : Mm) : List T → List T → Prop
  | [], [] => True
  | t :: ts, t' :: ts' => (∀ v, RT M t v → RT M t' v) ∧ Le2 M ts ts'
  | [], _ :: _ => False
  | _ :: _, [] => False
theorem le2_rts {M : Mm} : ∀ {ts ts' : List T} {vs : List Value}, Le2 M ts ts' → RTs M ts vs → RTs M ts' vs
  | [], [], _, _, h => h
  | t :: ts, t' :: ts', vs, g, h => by
    simp only [RTs] at h ⊢
    obtain ⟨v, r, h1, h2, h3⟩ := h
    exact ⟨v, r, h1, g.1 v h2, le2_rts g.2 h3⟩
  | [], _ :: _, _, g, _ => by cases g
  | _ :: _, [], _, g, _ => by cases g
theorem le_agg {M : Mm} {ts ts' : List T} (h : Le2 M ts ts') {v : Value} (hv : RT M (.agg ts) v) : RT M (.agg ts') v := by
  simp only [RT] at hv ⊢
  obtain ⟨xs, h1, h2⟩ := hv
  exact ⟨xs, h1, le2_rts h h2⟩
def nS : T := .lit (.slice none 0 0)
end Go.Proofs.Ytnkafjkcjpajgaa
namespace Go.Proofs.Ytnkafjkcjpajgaa
open Go.RowKit
set_option maxRecDepth 100000 in
set_option maxHeartbeats 1000000 in
theorem eqFlds_af (f : FuncId) (l : List Fld) (hf : ∀ a ∈ l, AF Try.prog f [.agg (Fld.ts a), .agg (Fld.ts a)] (· = .lit (.bool true))) :
    AF Try.prog 80 [fldRow l, fldRow l, .fn (.func f) []] (· = .lit (.bool true)) := by
  have e0 : decide ((l.length : Int) = (l.length : Int)) = true := by simp
  refine af_enter tok Try.func80 Try.ntmps80 Try.results80 rfl (by kernel_rfl) rfl rfl fun F hX => ?_
  repeat (first | refine gG ?_ | refine zN1 (fun hlen => ?_) | refine zN2 (fun hlen => ?_) | refine zAl (fun _ => ?_))
  refine x_loop [6, 7, 8, 9, 17, 18, 19, 20, 21, 22, 23, 24, 25, 26, 27, 28, 29, 30, 31] (fun k : Nat => [(17, .c (.lit (.int .i64 k)))]) (fun _ => []) (fun k => k ≤ l.length) (fun k => l.length - k) 0 (Nat.zero_le _) ⟨rfl, trivial⟩ rfl fun k hk => ?_
  repeat (first | refine gG ?_ | refine zN1 (fun hlen => ?_) | refine zN2 (fun hlen => ?_) | refine zAl (fun _ => ?_))
  refine x_cond rfl (fun h => ?_) (fun h => ?_)
  · have hk' : k < l.length := by simpa using h
    obtain ⟨a, ha⟩ := nth hk'
    have hp := hf a (List.mem_of_getElem? ha)
    repeat (first | refine gG ?_ | refine zN1 (fun hlen => ?_) | refine zN2 (fun hlen => ?_) | refine zAl (fun _ => ?_))
    refine zIx (k) (hk') ?_
    repeat (first | refine gG ?_ | refine zN1 (fun hlen => ?_) | refine zN2 (fun hlen => ?_) | refine zAl (fun _ => ?_))
    refine zEl (flat_at Fld.ts 5 Fld.ts_len ha) (Fld.ts_len a) ?_
    obtain ⟨fr, ⟨vk, vn, vt, vl⟩⟩ := a
    repeat (first | refine gG ?_ | refine zN1 (fun hlen => ?_) | refine zN2 (fun hlen => ?_) | refine zAl (fun _ => ?_))
    refine zIx (k) (hk') ?_
    repeat (first | refine gG ?_ | refine zN1 (fun hlen => ?_) | refine zN2 (fun hlen => ?_) | refine zAl (fun _ => ?_))
    refine zEl (flat_at Fld.ts 5 Fld.ts_len ha) (Fld.ts_len _) ?_
    repeat (first | refine gG ?_ | refine zN1 (fun hlen => ?_) | refine zN2 (fun hlen => ?_) | refine zAl (fun _ => ?_))
    refine zCallc (hp) ?_
    rintro _ rfl
    repeat (first | refine gG ?_ | refine zN1 (fun hlen => ?_) | refine zN2 (fun hlen => ?_) | refine zAl (fun _ => ?_))
    exact ⟨k + 1, hk', by omega, x_wkd 0 ⟨rfl, trivial⟩ rfl (by repeat (first | exact ag_refl | refine ag_upd rfl ?_ | refine ag_at rfl rfl ?_))⟩
  · repeat (first | refine gG ?_ | refine zN1 (fun hlen => ?_) | refine zN2 (fun hlen => ?_) | refine zAl (fun _ => ?_))
    first | refine zR ?_ | refine zQ ?_
    rfl
set_option maxRecDepth 100000 in
set_option maxHeartbeats 1000000 in
theorem eqMovs_af (f : FuncId) (l : List Mov) (hf : ∀ a ∈ l, AF Try.prog f [.agg (Mov.ts a), .agg (Mov.ts a)] (· = .lit (.bool true))) :
    AF Try.prog 77 [movRow l, movRow l, .fn (.func f) []] (· = .lit (.bool true)) := by
  have e0 : decide ((l.length : Int) = (l.length : Int)) = true := by simp
  refine af_enter tok Try.func77 Try.ntmps77 Try.results77 rfl (by kernel_rfl) rfl rfl fun F hX => ?_
  repeat (first | refine gG ?_ | refine zN1 (fun hlen => ?_) | refine zN2 (fun hlen => ?_) | refine zAl (fun _ => ?_))
  refine x_loop [6, 7, 8, 9, 17, 18, 19, 20, 21, 22, 23, 24, 25, 26, 27, 28, 29, 30, 31] (fun k : Nat => [(17, .c (.lit (.int .i64 k)))]) (fun _ => []) (fun k => k ≤ l.length) (fun k => l.length - k) 0 (Nat.zero_le _) ⟨rfl, trivial⟩ rfl fun k hk => ?_
  repeat (first | refine gG ?_ | refine zN1 (fun hlen => ?_) | refine zN2 (fun hlen => ?_) | refine zAl (fun _ => ?_))
  refine x_cond rfl (fun h => ?_) (fun h => ?_)
  · have hk' : k < l.length := by simpa using h
    obtain ⟨a, ha⟩ := nth hk'
    have hp := hf a (List.mem_of_getElem? ha)
    repeat (first | refine gG ?_ | refine zN1 (fun hlen => ?_) | refine zN2 (fun hlen => ?_) | refine zAl (fun _ => ?_))
    refine zIx (k) (hk') ?_
    repeat (first | refine gG ?_ | refine zN1 (fun hlen => ?_) | refine zN2 (fun hlen => ?_) | refine zAl (fun _ => ?_))
    refine zEl (flat_at Mov.ts 4 Mov.ts_len ha) (Mov.ts_len a) ?_
    obtain ⟨mn, mc, mf, mo⟩ := a
    repeat (first | refine gG ?_ | refine zN1 (fun hlen => ?_) | refine zN2 (fun hlen => ?_) | refine zAl (fun _ => ?_))
    refine zIx (k) (hk') ?_
    repeat (first | refine gG ?_ | refine zN1 (fun hlen => ?_) | refine zN2 (fun hlen => ?_) | refine zAl (fun _ => ?_))
    refine zEl (flat_at Mov.ts 4 Mov.ts_len ha) (Mov.ts_len _) ?_
    repeat (first | refine gG ?_ | refine zN1 (fun hlen => ?_) | refine zN2 (fun hlen => ?_) | refine zAl (fun _ => ?_))
    refine zCallc (hp) ?_
    rintro _ rfl
    repeat (first | refine gG ?_ | refine zN1 (fun hlen => ?_) | refine zN2 (fun hlen => ?_) | refine zAl (fun _ => ?_))
    exact ⟨k + 1, hk', by omega, x_wkd 0 ⟨rfl, trivial⟩ rfl (by repeat (first | exact ag_refl | refine ag_upd rfl ?_ | refine ag_at rfl rfl ?_))⟩
  · repeat (first | refine gG ?_ | refine zN1 (fun hlen => ?_) | refine zN2 (fun hlen => ?_) | refine zAl (fun _ => ?_))
    first | refine zR ?_ | refine zQ ?_
    rfl
theorem intsAt {l : List Int} {k : Nat} {i : Int} (h : l[k]? = some i) : (l.flatMap intTs)[k]? = some (.lit (.int .i64 i)) := by
  have := flat_get intTs 1 (fun _ => rfl) h (j := 0) (by omega)
  simpa [intTs] using this
set_option maxRecDepth 100000 in
set_option maxHeartbeats 1000000 in
theorem eqIntSelf_af (l : List Int) : AF Try.prog 79 [intRow l, intRow l] (· = .lit (.bool true)) := by
  have q1 : decide (((l.length : Nat) : Int) = ((l.length : Nat) : Int)) = true := decide_eq_true rfl
  refine af_enter tok Try.func79 Try.ntmps79 Try.results79 rfl (by kernel_rfl) rfl rfl fun F hX => ?_
  repeat (first | refine gG ?_ | refine zN1 (fun hlen => ?_) | refine zN2 (fun hlen => ?_))
  refine x_loop [4, 5, 13, 14, 15, 16, 17, 18, 19, 20, 21, 22, 23, 24, 25] (fun k : Nat => [(13, .c (.lit (.int .i64 (k : Nat))))]) (fun _ => []) (fun k => k ≤ l.length) (fun k => l.length - k) 0 (Nat.zero_le _) ⟨rfl, trivial⟩ rfl ?_
  rintro k hk
  repeat (first | refine gG ?_ | refine zN1 (fun hlen => ?_) | refine zN2 (fun hlen => ?_))
  refine x_cond rfl (fun h => ?_) (fun h => ?_)
  · have hk' : k < l.length := by simpa using h
    obtain ⟨r, hr⟩ := nth hk'
    have hat : (l.flatMap intTs)[k * 1]? = some (.lit (.int .i64 r)) := by rw [Nat.mul_one]; exact intsAt hr
    have hself : decide (r = r) = true := decide_eq_true rfl
    clear h hr
    repeat (first | refine gG ?_ | refine zN1 (fun hlen => ?_) | refine zN2 (fun hlen => ?_))
    refine ac_draw [1, 1, 1, 1, 1, 1, 1, 1, 1] [0, 1, 2, 3, 4, 5, 6, 7, 8] (by kernel_rfl) (by kernel_rfl) ?_
    refine gW ?_
    apply w_q; (focus exact rfl); (focus exact rfl); focus (intro _; (refine zIx k hk' ?_); exact det_refl)
    apply w_q; (focus exact rfl); (focus exact rfl); focus (intro _; (refine zEl1 hat ?_); exact det_refl)
    refine gW ?_
    apply w_q; (focus exact rfl); (focus exact rfl); focus (intro _; (refine zIx k hk' ?_); exact det_refl)
    apply w_q; (focus exact rfl); (focus exact rfl); focus (intro _; (refine zEl1 hat ?_); exact det_refl)
    refine gW ?_
    refine w_nil ?_
    repeat (first | refine gG ?_ | refine zN1 (fun hlen => ?_) | refine zN2 (fun hlen => ?_))
    exact ⟨k + 1, hk', by omega, x_wkd 0 ⟨rfl, trivial⟩ rfl (by repeat (first | exact ag_refl | refine ag_upd rfl ?_ | refine ag_at rfl rfl ?_))⟩
  · have hk' : k = l.length := by
      have : ¬ k < l.length := by simpa using h
      omega
    subst hk'
    clear h
    repeat (first | refine gG ?_ | refine zN1 (fun hlen => ?_) | refine zN2 (fun hlen => ?_))
    first | refine zR ?_ | refine zQ ?_
    rfl
set_option maxRecDepth 100000 in
set_option maxHeartbeats 1000000 in
theorem sameFld_af (f : Fld) : AF Try.prog 81 [.agg (Fld.ts f), .agg (Fld.ts f)] (· = .lit (.bool true)) := by
  have hc := sameValue_af f.first f.first
  rw [V.same_refl] at hc
  obtain ⟨fr, ⟨vk, vn, vt, vl⟩⟩ := f
  have d1 : decide (fr = fr) = true := decide_eq_true rfl
  dsimp only at hc
  refine af_enter tok Try.func81 Try.ntmps81 Try.results81 rfl (by kernel_rfl) rfl rfl fun F hX => ?_
  repeat (first | refine gG ?_ | refine zBf ?_)
  refine zCall (hc) ?_
  rintro _ rfl
  repeat (first | refine gG ?_ | refine zBf ?_)
  first | refine zR ?_ | refine zQ ?_
  rfl
set_option maxRecDepth 100000 in
set_option maxHeartbeats 1000000 in
theorem sameMov_af (m : Mov) : AF Try.prog 78 [.agg (Mov.ts m), .agg (Mov.ts m)] (· = .lit (.bool true)) := by
  have h1 := eqIntSelf_af m.lost
  have h2 := eqFlds_af 81 m.fields (fun f _ => sameFld_af f)
  obtain ⟨mn, mc, mf, mo⟩ := m
  have d1 : decide (mn = mn) = true := decide_eq_true rfl
  have d2 : decide (mc = mc) = true := decide_eq_true rfl
  dsimp only at h1 h2
  refine af_enter tok Try.func78 Try.ntmps78 Try.results78 rfl (by kernel_rfl) rfl rfl fun F hX => ?_
  repeat (first | refine gG ?_ | refine zBf ?_)
  refine zCall (h1) ?_
  rintro _ rfl
  repeat (first | refine gG ?_ | refine zBf ?_)
  refine zCall (h2) ?_
  rintro _ rfl
  repeat (first | refine gG ?_ | refine zBf ?_)
  first | refine zR ?_ | refine zQ ?_
  rfl
set_option maxRecDepth 100000 in
set_option maxHeartbeats 1000000 in
theorem sameWay_af (l : List Mov) : AF Try.prog 34 [wayT l, wayT l] (· = .lit (.bool true)) := by
  have h2 := eqMovs_af 78 l (fun m _ => sameMov_af m)
  refine af_enter tok Try.func34 Try.ntmps34 Try.results34 rfl (by kernel_rfl) rfl rfl fun F hX => ?_
  repeat (first | refine gG ?_ | refine zBf ?_)
  refine zCall (h2) ?_
  rintro _ rfl
  repeat (first | refine gG ?_ | refine zBf ?_)
  first | refine zR ?_ | refine zQ ?_
  rfl
theorem le_row {M : Mm} {n sz : Nat} {ts ts' : List T} (h : Le2 M ts ts') {v : Value} (hv : RT M (.row n sz ts) v) : RT M (.row n sz ts') v := by
  simp only [RT] at hv ⊢
  obtain ⟨A, c, xs, h1, h2, h3, h4, h5, h6, h7⟩ := hv
  exact ⟨A, c, xs, h1, h2, h3, h4, h5, h6, le2_rts h h7⟩
def acA : Ac := ⟨⟨#[65]⟩, [], [], .mk 1 ⟨#[]⟩ [], ex0⟩
def prA : Pr := ⟨⟨#[]⟩, 0, [], [], [], [], [], [acA]⟩
def acN : List T := [.lit (.string ⟨#[65]⟩), nS, nS, .lit (.int .i64 1), .lit (.string ⟨#[]⟩), nS, .lit (.int .i64 0), .lit (.int .i64 0), .lit (.string ⟨#[]⟩), nS, nS, nS, nS, .lit (.int .i64 0)]
def prN : List T := [.lit (.string ⟨#[]⟩), .lit (.int .i64 0), nS, nS, nS, nS, nS, .row 1 14 acN]
theorem le_acA (M : Mm) : Le2 M acN acA.ts := by
  show Le2 M acN [.lit (.string ⟨#[65]⟩), strRow [], Y.row [], .lit (.int .i64 1), .lit (.string ⟨#[]⟩), Y.row [], .lit (.int .i64 0), .lit (.int .i64 0), .lit (.string ⟨#[]⟩), strRow [], Y.row [], .row 0 8 [], .row 0 12 [], .lit (.int .i64 0)]
  simp only [acN, Le2]
  exact ⟨fun _ h => h, fun _ h => rt_nilrow (by omega) h, fun _ h => rt_nilrow (by omega) h, fun _ h => h, fun _ h => h, fun _ h => rt_nilrow (by omega) h, fun _ h => h, fun _ h => h, fun _ h => h, fun _ h => rt_nilrow (by omega) h, fun _ h => rt_nilrow (by omega) h, fun _ h => rt_nilrow (by omega) h, fun _ h => rt_nilrow (by omega) h, fun _ h => h, trivial⟩
theorem le_prA (M : Mm) (v : Value) (h : RT M (.agg prN) v) : RT M prA.t v := by
  refine le_agg (ts := prN) (ts' := prA.ts) ?_ h
  show Le2 M prN [.lit (.string ⟨#[]⟩), .lit (.int .i64 0), Us.row [], Da.row [], Tr.row [], Im.row [], Fu.row [], .row 1 14 acA.ts]
  simp only [prN, Le2]
  exact ⟨fun _ h => h, fun _ h => h, fun _ h => rt_nilrow (by omega) h, fun _ h => rt_nilrow (by omega) h, fun _ h => rt_nilrow (by omega) h, fun _ h => rt_nilrow (by omega) h, fun _ h => rt_nilrow (by omega) h, fun _ h => le_row (le_acA M) h, trivial⟩
theorem renS1 : sameB prA prA acA.msg acA.msg = true := (sameB_iff prA prA acA.msg acA.msg).2 ⟨fun _ => False, fun _ h => h.elim, by
  show (Y.mk 1 ⟨#[]⟩ []).lk (fun _ => False) [] [] (Y.mk 1 ⟨#[]⟩ [])
  rw [Y.lk]
  refine ⟨rfl, by omega, ?_, by rw [Y.lks]; trivial⟩
  unfold nmOk
  rw [if_neg (by omega), if_neg (by omega)]
  exact ⟨rfl, rfl⟩⟩
theorem renA1 : oneR prA prA acA = (⟨⟨#[65]⟩, 0, [], []⟩, 0) := by
  have h : prA.actor acA.name = some acA := by
    unfold Pr.actor
    show List.find? _ [acA] = some acA
    rw [List.find?_cons, decide_eq_true rfl]
  unfold oneR
  rw [h]
  dsimp only
  rw [renS1]
  rfl
theorem renW1 : wayR prA prA prA.actors = ([⟨⟨#[65]⟩, 0, [], []⟩], 0) := by
  show wayR prA prA [acA] = _
  rw [wayR_good (by rw [renA1]), renA1, wayR]
  simp
theorem planA_af : AF Try.prog 31 [.agg prN, .agg prN] (· = .tup [wayT [⟨⟨#[65]⟩, 0, [], []⟩], .lit (.int .i64 0)]) := by
  have h := planAll_af prA prA (by decide +kernel) (by decide +kernel)
  rw [renW1] at h
  exact h.re fun M vs hv => le2_rts (ts := [.agg prN, .agg prN]) (by simp only [Le2]; exact ⟨le_prA M, le_prA M, trivial⟩) hv
set_option maxRecDepth 100000 in
set_option maxHeartbeats 8000000 in
theorem renewPlan_law (p q : Pr) (hp : p.size ≤ 1048576) (hq : q.size ≤ 1048576) : AF Try.prog 8 [p.t, q.t] (· = .lit (.bool true)) := by
  have h0 := planA_af
  have h1 := programSmall_af p hp
  have h2 := programSmall_af q hq
  have h3 := planAll_af p q hp hq
  have h4 := refPlan_af p q hp hq
  have h5 := sameWay_af (wayR p q p.actors).1
  generalize wayR p q p.actors = wr at *
  obtain ⟨ms, e⟩ := wr
  clear hp hq
  obtain ⟨pn, pv, us, das, trs, ims, fus, acs⟩ := p
  obtain ⟨qn, qv, qus, qdas, qtrs, qims, qfus, qacs⟩ := q
  unfold Tell at *
  unfold prN acN nS at h0
  have d1 : decide (e = e) = true := decide_eq_true rfl
  refine af_enter tok Try.func8 Try.ntmps8 Try.results8 rfl (by kernel_rfl) rfl rfl fun F hX => ?_
  repeat (first | refine gX ?_ | refine zN1 (fun hlen => ?_) | refine zN2 (fun hlen => ?_) | refine zAl (fun _ => ?_) | refine zBf ?_)
  refine zBo (fun v1 => ?_)
  repeat (first | refine gO ?_ | refine zN1 (fun hlen => ?_) | refine zN2 (fun hlen => ?_) | refine zAl (fun _ => ?_) | refine zBf ?_)
  refine x_fzc 1 7 ?_
  repeat (first | refine gG ?_ | refine zN1 (fun hlen => ?_) | refine zN2 (fun hlen => ?_) | refine zAl (fun _ => ?_) | refine zBf ?_)
  refine zCall (h0) ?_
  rintro _ rfl
  repeat (first | refine gG ?_ | refine zN1 (fun hlen => ?_) | refine zN2 (fun hlen => ?_) | refine zAl (fun _ => ?_) | refine zBf ?_)
  refine zCall (h1) ?_
  rintro _ ⟨z1, rfl⟩
  clear h1 h0
  cases z1
  · repeat (first | refine gG ?_ | refine zN1 (fun hlen => ?_) | refine zN2 (fun hlen => ?_) | refine zAl (fun _ => ?_) | refine zBf ?_)
    first | refine zR ?_ | refine zQ ?_
    rfl
  repeat (first | refine gG ?_ | refine zN1 (fun hlen => ?_) | refine zN2 (fun hlen => ?_) | refine zAl (fun _ => ?_) | refine zBf ?_)
  refine zCall (h2) ?_
  rintro _ ⟨z2, rfl⟩
  clear h2
  cases z2
  · repeat (first | refine gG ?_ | refine zN1 (fun hlen => ?_) | refine zN2 (fun hlen => ?_) | refine zAl (fun _ => ?_) | refine zBf ?_)
    first | refine zR ?_ | refine zQ ?_
    rfl
  repeat (first | refine gG ?_ | refine zN1 (fun hlen => ?_) | refine zN2 (fun hlen => ?_) | refine zAl (fun _ => ?_) | refine zBf ?_)
  refine zCall (h3) ?_
  rintro _ rfl
  clear h3
  repeat (first | refine gG ?_ | refine zN1 (fun hlen => ?_) | refine zN2 (fun hlen => ?_) | refine zAl (fun _ => ?_) | refine zBf ?_)
  refine zCall (h4) ?_
  rintro _ rfl
  clear h4
  repeat (first | refine gG ?_ | refine zN1 (fun hlen => ?_) | refine zN2 (fun hlen => ?_) | refine zAl (fun _ => ?_) | refine zBf ?_)
  refine zCall (h5) ?_
  rintro _ rfl
  repeat (first | refine gG ?_ | refine zN1 (fun hlen => ?_) | refine zN2 (fun hlen => ?_) | refine zAl (fun _ => ?_) | refine zBf ?_)
  first | refine zR ?_ | refine zQ ?_
  rw [decide_eq_true rfl]; rfl
end Go.Proofs.Ytnkafjkcjpajgaa
namespace Go.Proofs.Ytnkafjkcjpajgaa
open Go.ChangeShapes Go.WideShapes Go.ChangeAt Go.RowKit Go.Deep
section
variable {H : Type} {enc : TypeId × Value → H} {P : Program} {w : World} {base : Nat} {spare : Nat → Bool} {held : Bool}
theorem bulk_one (d : DataW H) : 1 ≤ Rows.uptoBulk d := by
  cases d with
  | lit l => cases l <;> simp [Rows.uptoBulk]
  | _ => simp [Rows.uptoBulk]
end
end Go.Proofs.Ytnkafjkcjpajgaa
namespace Go.Proofs.Ytnkafjkcjpajgaa
open Go.ChangeShapes Go.WideShapes Go.ChangeAt Go.RowKit
theorem own : ownKnob Try.prog.godebug = none := by kernel_rfl
theorem laidOut : laidOutB Try.prog = true := by kernel_rfl
section
variable {H : Type} {enc : TypeId × Value → H}
theorem trodAll_below {P : Program} (hl : laidOutB P = true) {W W' : World} (hb : Below W.heap.size W W') (ts : List TypeId) : ∀ (vs : List Value) (ds : List (DataW H)) (ps : List MemPlace),
    (ts.all fun t => P.readableRec t && decide (t < P.types.size)) = true → DataW.TrodAll enc P W 0 (fun _ => true) true ts vs ds ps → (∀ x ∈ ps, x.block < W.heap.size) →
    DataW.TrodAll enc P W' 0 (fun b => decide (b < W.heap.size)) true ts vs ds ps := by
  induction ts with
  | nil =>
    intro vs ds ps _ h _
    obtain ⟨rfl, rfl, rfl⟩ := trodAll_nil h
    rfl
  | cons t ts ih =>
    intro vs ds ps hr h hlt
    obtain ⟨v, vs', d, ds', p, q, rfl, rfl, rfl, h0, h1⟩ := trodAll_cons h
    simp only [List.all_cons, Bool.and_eq_true, decide_eq_true_eq] at hr
    refine ⟨p, q, Below.trod hl hr.1.1 hr.1.2 h0 hb fun x hx => hlt x (List.mem_append_left _ hx), ?_, rfl⟩
    exact ih vs' ds' q hr.2 h1 fun x hx => hlt x (List.mem_append_right _ hx)
theorem law_post {f : Func} {s : ChangeSpec} {W W' : World} {args : Array Value} {ds gs : List (DataW H)} {before : List MemPlace}
    (hW : DataW.Whole enc Try.prog f.params.toList s.vars false W args.toList ds gs before) (hv : s.vars = []) (hrt : f.resultTypes = #[4])
    (hr : (f.params.toList.all fun t => Try.prog.readableRec t && decide (t < Try.prog.types.size)) = true)
    (hres : (s.fn H (ds ++ gs)).results = [.lit (.bool true)]) (hargs : (s.fn H (ds ++ gs)).args = ds) (hvars : (s.fn H (ds ++ gs)).vars = []) (hb : Below W.heap.size W W') :
    s.post enc Try.prog f false true false false W args (.bool true) W' := by
  have hlt : ∀ p ∈ before, p.block < W.heap.size := fun p hp => hW.lt p hp
  have hW' := hW
  obtain ⟨p, q, hA, hV, rfl, _, _⟩ := hW'
  rw [hv] at hV
  obtain ⟨rfl, rfl⟩ := trodVars_none hV
  rw [List.append_nil] at hlt
  refine ⟨ds, [], _, [], p, [], hW, ?_, ?_, ?_, hb.frame _ |> World.keptBut_mono (fun x hx => ⟨hx, ?_⟩), fun h => by cases h⟩
  · rw [hrt, hres]
    exact trodAll_mk1 (shut_bool Try.underlying4 true)
  · rw [hargs]
    exact trodAll_below laidOut hb _ _ _ _ hr hA hlt
  · rw [hvars, hv]
    rfl
  · rw [List.append_nil] at hx
    exact .inr (.inl hx)
end
end Go.Proofs.Ytnkafjkcjpajgaa
namespace Go.Proofs.Ytnkafjkcjpajgaa
open Go.ChangeShapes Go.WideShapes Go.ChangeAt Go.RowKit Go.Deep
/-- all memory of a world -/
def memOf (w : World) : Mm := frz (fun _ => none) 0 w
theorem memOf_ok (w : World) : MemOk (memOf w) w := frz_ok (fun p v h => by cases h) 0
theorem memOf_at {w : World} {p : Addr} {v : Value} (h : w.cell? p = some v) (h1 : v.oneCell' = true) : memOf w p = some v := frz_new rfl (Nat.zero_le _) h h1
section
variable {H : Type} {enc : TypeId × Value → H} {P : Program} {w : World} {base : Nat} {spare : Nat → Bool} {held : Bool}
def Opens (enc : TypeId × Value → H) (P : Program) (w : World) (base : Nat) (spare : Nat → Bool) (held : Bool) (t : TypeId) {α : Type} (f : α → List T) (μ : α → Nat) (fuel : Nat) : Prop :=
  ∀ (cs : List Value) (x : DataW H × List MemPlace), DataW.trod enc P w base spare held fuel t cs = some x → ∃ a, RTs (memOf w) (f a) cs ∧ OneAll cs ∧ μ a ≤ Rows.uptoBulk x.1
theorem sum_le {α : Type} (μ : α → Nat) : ∀ (l : List α) (ds : List (DataW H)), l.length = ds.length → (∀ (i : Nat) (a : α) (d : DataW H), l[i]? = some a → ds[i]? = some d → μ a ≤ Rows.uptoBulk d) → (l.map μ).sum ≤ Rows.uptoBulkAll ds
  | [], [], _, _ => by simp [Rows.uptoBulkAll]
  | a :: l, d :: ds, hl, h => by
    have h1 := h 0 a d rfl rfl
    have h2 := sum_le μ l ds (by simpa using hl) fun i a d ha hd => h (i + 1) a d (by simpa using ha) (by simpa using hd)
    simp only [List.map_cons, List.sum_cons, Rows.uptoBulkAll]
    omega
  | [], _ :: _, hl, _ => by simp at hl
  | _ :: _, [], hl, _ => by simp at hl
theorem snoc_ind {α : Type} {p : List α → Prop} (h0 : p []) (h1 : ∀ l x, p l → p (l ++ [x])) (l : List α) : p l := by
  have : ∀ n (l : List α), l.length = n → p l := by
    intro n
    induction n with
    | zero => intro l hl; rw [List.eq_nil_of_length_eq_zero hl]; exact h0
    | succ n ih =>
      intro l hl
      have hne : l ≠ [] := fun e => by rw [e] at hl; cases hl
      rw [← List.dropLast_concat_getLast hne]
      exact h1 _ _ (ih _ (by simp [hl]))
  exact this l.length l rfl
theorem rows_of {α : Type} (f : α → List T) (sz : Nat) (hf : ∀ a, (f a).length = sz) {a : Addr} : ∀ (l : List α) (C : Nat → List Value), (∀ (i : Nat) (x : α), l[i]? = some x → RTs (memOf w) (f x) (C i) ∧ OneAll (C i) ∧ ∀ j u, (C i)[j]? = some u → w.cell? (a.add (i * sz + j)) = some u) →
    ∃ xs : List Value, xs.length = l.length * sz ∧ At (memOf w) a xs ∧ RTs (memOf w) (l.flatMap f) xs := by
  intro l
  induction l using snoc_ind with
  | h0 => exact fun _ _ => ⟨[], by simp, fun j x h => by simp at h, by simp [RTs]⟩
  | h1 l x ih =>
    intro C h
    obtain ⟨xs, h1, h2, h3⟩ := ih C fun i y hy => h i y (by rw [List.getElem?_append_left (List.getElem?_eq_some_iff.1 hy).1]; exact hy)
    obtain ⟨g1, g2, g3⟩ := h l.length x (by simp)
    have hcl := g1.len
    rw [hf] at hcl
    refine ⟨xs ++ C l.length, by simp [h1, hcl, Nat.add_mul], fun j u hu => ?_, ?_⟩
    · rw [List.getElem?_append] at hu
      split at hu
      · exact h2 j u hu
      · have := g3 _ u hu
        rw [show l.length * sz + (j - xs.length) = j by omega] at this
        exact memOf_at this (g2 u (List.mem_of_getElem? hu))
    · rw [List.flatMap_append]
      refine h3.app ?_
      simpa using g1
theorem opens_slice {α : Type} [Inhabited α] {t e : TypeId} (f : α → List T) (μ : α → Nat) (sz : Nat) (hsz : 0 < sz) (hf : ∀ a, (f a).length = sz) {fuel : Nat} (ht : P.underlying t = some (.slice e)) (hC : P.cellsOf e = sz)
    (hel : ∀ n, n < fuel → Opens enc P w base spare held e f μ n) : Opens enc P w base spare held t (fun l : List α => [.row l.length sz (l.flatMap f)]) (fun l => (l.map μ).sum + 1) fuel := by
  intro cs x h
  rcases DataW.trod_slice ht h with ⟨rfl, rfl⟩ | ⟨a, len, cap, elems, rest, n, hn, rfl, rfl, hb, hl, hm, hlen, hi, _, _⟩
  · refine ⟨[], ?_, fun u hu => by simp at hu; subst hu; rfl, by simp [Rows.uptoBulk]⟩
    simp only [RTs]
    exact ⟨_, _, rfl, rt_nil hsz (by simp only [RT]), rfl⟩
  · rw [hC] at hi
    have hv : ∀ i, i < len → ∃ p : α × List Value, (p.2.length = sz ∧ ∀ j u, p.2[j]? = some u → w.cell? (a.add (i * sz + j)) = some u) ∧ RTs (memOf w) (f p.1) p.2 ∧ OneAll p.2 ∧ ∀ y, elems[i]? = some y → μ p.1 ≤ Rows.uptoBulk y.1 := by
      intro i hil
      have hk := hi i hil
      rw [List.getElem?_eq_getElem (by omega)] at hk
      obtain ⟨cs', h1, h2⟩ := Option.bind_eq_some_iff.1 hk
      obtain ⟨el, h3, h4, h5⟩ := hel n (by omega) _ _ h2
      obtain ⟨_, hlen', hcell⟩ := World.cells?_some h1
      refine ⟨(el, cs'), ⟨hlen', fun j u hu => ?_⟩, h3, h4, fun y hy => ?_⟩
      · have hj : j < sz := by rw [← hlen']; exact (List.getElem?_eq_some_iff.1 hu).1
        rw [← hu, ← hcell j hj, add_add']
      · rw [List.getElem?_eq_getElem (by omega)] at hy
        injection hy with hy
        rw [← hy]; exact h5
    obtain ⟨G, hG⟩ := choose_lt (α := α × List Value) hv
    obtain ⟨xs, g1, g2, g3⟩ := rows_of (w := w) (a := a) f sz hf ((List.range len).map fun i => (G i).1) (fun i => (G i).2) (fun i x hx => by
      have hil : i < len := by have := (List.getElem?_eq_some_iff.1 hx).1; simpa using this
      simp [hil] at hx
      obtain ⟨k1, k2, k3, _⟩ := hG i hil
      rw [← hx]
      exact ⟨k2, k3, k1.2⟩)
    refine ⟨(List.range len).map fun i => (G i).1, ?_, fun u hu => by simp at hu; subst hu; rfl, ?_⟩
    · simp only [RTs]
      refine ⟨_, _, rfl, ?_, rfl⟩
      simp only [RT]
      exact ⟨some a, cap, xs, by simp, by simpa using hl, by simp; omega, hsz, g1, fun _ => ⟨a, rfl, g2⟩, g3⟩
    · have := sum_le μ ((List.range len).map fun i => (G i).1) (elems.map (·.1)) (by simp [hlen]) (fun i y d hy hd => by
        have hil : i < len := by have := (List.getElem?_eq_some_iff.1 hy).1; simpa using this
        simp [hil] at hy
        rw [List.getElem?_map] at hd
        obtain ⟨z, hz, rfl⟩ := Option.map_eq_some_iff.1 hd
        rw [← hy]
        exact (hG i hil).2.2.2 z hz)
      simp only [Rows.uptoBulk]
      omega
theorem opens_int {t : TypeId} {k : IntKind} {fuel : Nat} (ht : P.underlying t = some (.int k)) : Opens enc P w base spare held t (fun i : Int => [.lit (.int k i)]) (fun _ => 1) fuel := by
  intro cs x h
  obtain ⟨i, rfl, rfl, _⟩ := DataW.trod_int ht h
  exact ⟨i, by simp [RTs, RT], fun u hu => by simp at hu; subst hu; rfl, bulk_one _⟩
theorem opens_str {t : TypeId} {fuel : Nat} (ht : P.underlying t = some .string) : Opens enc P w base spare held t (fun s : ByteArray => [.lit (.string s)]) (fun _ => 1) fuel := by
  intro cs x h
  obtain ⟨i, rfl, rfl, _⟩ := DataW.trod_string ht h
  exact ⟨i, by simp [RTs, RT], fun u hu => by simp at hu; subst hu; rfl, bulk_one _⟩
end
/-- from a walk to the call: every law that takes trees and tells true -/
theorem law_call {P : Program} {f : FuncId} {ts : List T} {vs : List Value} {W : World} (h : AF P f ts (· = .lit (.bool true))) (hv : RTs (memOf W) ts vs) (hG : Glob W := by first | assumption | (intro x h; simp [globTab] at h)) : Calls P f vs.toArray W fun e W' => e = .returned (.bool true) ∧ Below W.heap.size W W' :=
  (h.2 (memOf W) W vs hG (memOf_ok W) hv).mono fun e w' ⟨v, r, M', he, hr, _, _, hrt, hb⟩ => by
    subst hr
    simp only [RT] at hrt
    rw [he, hrt]
    exact ⟨rfl, hb⟩
end Go.Proofs.Ytnkafjkcjpajgaa
