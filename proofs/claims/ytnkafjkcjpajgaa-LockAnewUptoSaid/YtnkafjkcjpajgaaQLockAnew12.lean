/-
  Texts of this proof, part 12: Vmg Vld Vmh.
-/
import Derived.Test.YtnkafjkcjpajgaaQLockAnew11
import Derived.Laws.StructEq
import Derived.Lib.MinMax
namespace Go.Proofs.Ytnkafjkcjpajgaa
open Go.RowKit
abbrev SB2 (b bst : Nat) (ps : List (ByteArray × Int)) (st : Int) : List Blk := [.mp b (mkeys Value.string (mapT iT ps)), .box bst 3 [.c (.lit (.int .i64 st))]]
def SV (o : Option PM) (b bst : Nat) (ps : List (ByteArray × Int)) (r : AV) (hs : List Blk) : Prop :=
  ∃ st : Int, (o = none ∧ r = .tup [.c (.lit (.map none)), .c (.lit (.bool false))] ∧ hs = [.mp b (mkeys Value.string (mapT iT ps)), .box bst 3 [.c (.lit (.int .i64 st))], .dead]) ∨
    ∃ R i b' rs, o = some R ∧ RelP rs R ∧ r = .tup [.own i (.map (some b')), .c (.lit (.bool true))] ∧ ((b' = b ∧ rs = ps ∧ hs = [.mp b (mkeys Value.string (mapT iT ps)), .box bst 3 [.c (.lit (.int .i64 st))], .dead]) ∨ hs = [.mp b (mkeys Value.string (mapT iT ps)), .box bst 3 [.c (.lit (.int .i64 st))], .mp b' (mkeys Value.string (mapT iT rs))])
def mvT (m : Md) : T := .lit (.int .i64 m.version)
theorem mv_snoc (X : List Md) (m : Md) : (X ++ [m]).length = X.length + 1 ∧ (X ++ [m]).map mvT = X.map mvT ++ [.lit (.int .i64 m.version)] := by
  constructor
  · simp
  · rw [List.map_append]; rfl
def tryTo (l : List Md) (fs : List Pk) (n : ByteArray) : Nat → List Md
  | 0 => []
  | 1 => prefL fs n l.reverse
  | _ => cand l fs n
theorem lki_none {ps : List (ByteArray × Int)} {n : ByteArray} (h : gget n ps = none) : (mget n (mapT iT ps)).getD (.lit (.int .i64 0)) = .lit (.int .i64 0) ∧ (mget n (mapT iT ps)).isSome = false := by
  rw [mget_T, h]; exact ⟨rfl, rfl⟩
theorem lki_some {ps : List (ByteArray × Int)} {n : ByteArray} {v : Int} (h : gget n ps = some v) : (mget n (mapT iT ps)).getD (.lit (.int .i64 0)) = .lit (.int .i64 v) ∧ (mget n (mapT iT ps)).isSome = true := by
  rw [mget_T, h]; exact ⟨rfl, rfl⟩
theorem uss_app (X Y : List Us) : (X ++ Y).length = X.length + Y.length ∧ (X ++ Y).flatMap Us.ts = X.flatMap Us.ts ++ Y.flatMap Us.ts := by simp
theorem try_next (l : List Md) (fs : List Pk) (n : ByteArray) (p : Nat) (hp : p < 2) : tryTo l fs n (p + 1) = tryTo l fs n p ++ selL fs n (decide (p = 0)) l.reverse := by
  rcases (by omega : p = 0 ∨ p = 1) with rfl | rfl
  · show prefL fs n l.reverse = [] ++ selL fs n true l.reverse
    rw [sel_pref, List.nil_append]
  · show cand l fs n = prefL fs n l.reverse ++ selL fs n false l.reverse
    rw [sel_other]
    rfl
theorem try_len (l : List Md) (fs : List Pk) (n : ByteArray) (p : Nat) : (tryTo l fs n p).length ≤ 2 * l.length := by
  match p with
  | 0 => exact Nat.zero_le _
  | 1 =>
    have := sel_len fs n true l.reverse
    rw [sel_pref, List.length_reverse] at this
    show (prefL fs n l.reverse).length ≤ _
    omega
  | _ + 2 => exact cand_len l fs n
theorem mv_at {C : List Md} {j : Nat} {m : Md} (h : C[j]? = some m) : (C.map mvT)[j * 1]? = some (.lit (.int .i64 m.version)) := by
  rw [Nat.mul_one, List.getElem?_map, h]; rfl
set_option maxRecDepth 100000 in
set_option maxHeartbeats 16000000 in
theorem solved_ag (l : List Md) (hl : Rg1 l) (fs : List Pk) (root : List Us) (hr : root.length ≤ 5) (hru : ∀ u ∈ root, useE u = 0) : ∀ (k : Nat) (P : PM) (ps : List (ByteArray × Int)) (b bst : Nat) (st : Int), VP l P → RelP ps P → l.length + 1 ≤ k + P.length →
    AG Try.prog 63 [.c (Md.row l), .c (Us.row root), .c (Pk.row fs), .own 0 (.map (some b)), .ptr 1 bst 0] (SB2 b bst ps st) (SV (solvedV l fs root k P) b bst ps)
  | 0, P, ps, b, bst, st, hP, hR, hk => by have := hP.len; omega
  | k + 1, P, ps, b, bst, st, hP, hR, hk => by
    have ih := solved_ag l hl fs root hr hru k
    have hll := hl.len
    have hWm := ref_mem hl (root := root) hP hR
    have hWn := fun u (h : u ∈ refTo root l ps l.length) => ref_name hl hru hP ((hWm u).1 h)
    have hW1 : satP (wantsP root P) P = satP (refTo root l ps l.length) P := satP_eq fun u => (hWm u).symm
    have hW2 : openP P (wantsP root P) = openP P (refTo root l ps l.length) := openP_eq fun u => (hWm u).symm
    have hWl := refTo_len hl hr ps l.length (Nat.le_refl _)
    have hWk := fun j (hj : j ≤ l.length) => refTo_len hl hr ps j hj
    have hul := fun m (hm : m ∈ l) => (hl.mods m hm).2.1
    have hsv : solvedV l fs root (k + 1) P = bif satP (refTo root l ps l.length) P then compl l fs root (k + 1) P else none := by unfold solvedV; rw [hW1]
    have hc0 : openP P (refTo root l ps l.length) = none → compl l fs root (k + 1) P = some P := fun h => compl_none (by rw [hW2]; exact h)
    have hc1 : ∀ n, openP P (refTo root l ps l.length) = some n → compl l fs root (k + 1) P = (cand l fs n).findSome? fun m => solvedV l fs root k (P ++ [(n, m)]) := fun n h => compl_some (by rw [hW2]; exact h)
    rw [hsv]
    clear hsv hW1 hW2 hWm
    obtain ⟨st1, hst1⟩ : ∃ s, IntKind.i64.wrap (st - 1) = s := ⟨_, rfl⟩
    generalize compl l fs root (k + 1) P = cp at *
    refine ag_enter 3 tok Try.func63 Try.ntmps63 Try.results63 rfl (by kernel_rfl) rfl fun F => ?_
    repeat (first | refine gG ?_ | refine zN1 (fun hlen => ?_) | refine zN2 (fun hlen => ?_) | refine zAl (fun _ => ?_) | refine zAp (fun _ => ?_))
    refine lo_sub rfl rfl (r := st1) hst1 ?_
    clear hst1
    repeat (first | refine gX ?_ | refine zN1 (fun hlen => ?_) | refine zN2 (fun hlen => ?_) | refine zAl (fun _ => ?_) | refine zAp (fun _ => ?_))
    refine zBo (fun _ => ?_)
    repeat (first | refine gG ?_ | refine zN1 (fun hlen => ?_) | refine zN2 (fun hlen => ?_) | refine zAl (fun _ => ?_) | refine zAp (fun _ => ?_))
    refine x_loop [13, 15, 16, 17, 45, 46, 47, 48, 49, 50, 51, 52, 53, 54, 55, 56, 57, 58, 59, 60, 61, 62, 63, 64, 65, 66, 67] (fun y : Nat × Value => [(45, .c (.lit (.int .i64 (y.1 : Nat)))), (13, .own 2 y.2)]) (fun y => [.mp b (mkeys Value.string (mapT iT ps)), .box bst 3 [.c (.lit (.int .i64 st1))], .row y.2 118 3 (refTo root l ps y.1).length ((refTo root l ps y.1).flatMap Us.ts)])
      (fun y => y.1 ≤ l.length) (fun y => l.length - y.1) (0, _) (Nat.zero_le _) ⟨rfl, rfl, trivial⟩ (by dsimp only; rw [refTo_zero, Nat.zero_add]; rfl) ?_
    rintro ⟨j, v13⟩ hj
    dsimp only at hj ⊢
    repeat (first | refine gG ?_ | refine zN1 (fun hlen => ?_) | refine zN2 (fun hlen => ?_) | refine zAl (fun _ => ?_) | refine zAp (fun _ => ?_))
    refine x_cond rfl (fun h => ?_) (fun h => ?_)
    · have hj' : j < l.length := by simpa using h
      obtain ⟨m, hm⟩ := nth hj'
      have hat := Md.at hm
      have hul := hul m (List.mem_of_getElem? hm)
      have hle := hWk j hj
      have hsn := refTo_snoc (root := root) (ps := ps) hm
      have hhit : hitR ps m = match gget m.name ps with | none => false | some v => decide (v = m.version) := rfl
      clear h hm hWk hWn hWl hc0 hc1 ih hk hP hR hl hru
      generalize refTo root l ps j = X at *
      generalize hX : refTo root l ps (j + 1) = X' at *
      rcases hg : gget m.name ps with _ | v
      · obtain ⟨hlk, hlc⟩ := lki_none hg
        rw [hg] at hhit
        replace hhit : hitR ps m = false := hhit
        rw [hhit, cond_false, List.append_nil] at hsn
        clear hg hhit
        obtain ⟨nm, mv, us⟩ := m
        dsimp only at hlk hlc
        repeat (first | refine gG ?_ | refine zN1 (fun hlen => ?_) | refine zN2 (fun hlen => ?_) | refine zAl (fun _ => ?_) | refine zAp (fun _ => ?_))
        refine zIx (j) (hj') ?_
        repeat (first | refine gG ?_ | refine zN1 (fun hlen => ?_) | refine zN2 (fun hlen => ?_) | refine zAl (fun _ => ?_) | refine zAp (fun _ => ?_))
        refine zEl (hat) (Md.ts_len _) ?_
        repeat (first | refine gG ?_ | refine zN1 (fun hlen => ?_) | refine zN2 (fun hlen => ?_) | refine zAl (fun _ => ?_) | refine zAp (fun _ => ?_))
        refine zLkso 9 3 hlk hlc ?_
        repeat (first | refine gG ?_ | refine zN1 (fun hlen => ?_) | refine zN2 (fun hlen => ?_) | refine zAl (fun _ => ?_) | refine zAp (fun _ => ?_))
        exact ⟨(j + 1, _), hj', by simp only; omega, x_wkd 3 ⟨rfl, rfl, trivial⟩ (by dsimp only; rw [hX, hsn]; rfl) (by repeat (first | exact ag_refl | refine ag_upd rfl ?_ | refine ag_at rfl rfl ?_))⟩
      · obtain ⟨hlk, hlc⟩ := lki_some hg
        rw [hg] at hhit
        replace hhit : hitR ps m = decide (v = m.version) := hhit
        rw [hhit] at hsn
        clear hg hhit
        obtain ⟨nm, mv, us⟩ := m
        dsimp only at hlk hlc hsn hul
        have hap := uss_app X us
        cases d1 : decide (v = mv)
        · rw [d1, cond_false, List.append_nil] at hsn
          repeat (first | refine gG ?_ | refine zN1 (fun hlen => ?_) | refine zN2 (fun hlen => ?_) | refine zAl (fun _ => ?_) | refine zAp (fun _ => ?_))
          refine zIx (j) (hj') ?_
          repeat (first | refine gG ?_ | refine zN1 (fun hlen => ?_) | refine zN2 (fun hlen => ?_) | refine zAl (fun _ => ?_) | refine zAp (fun _ => ?_))
          refine zEl (hat) (Md.ts_len _) ?_
          repeat (first | refine gG ?_ | refine zN1 (fun hlen => ?_) | refine zN2 (fun hlen => ?_) | refine zAl (fun _ => ?_) | refine zAp (fun _ => ?_))
          refine zLkso 9 3 hlk hlc ?_
          repeat (first | refine gG ?_ | refine zN1 (fun hlen => ?_) | refine zN2 (fun hlen => ?_) | refine zAl (fun _ => ?_) | refine zAp (fun _ => ?_))
          exact ⟨(j + 1, _), hj', by simp only; omega, x_wkd 3 ⟨rfl, rfl, trivial⟩ (by dsimp only; rw [hX, hsn]; rfl) (by repeat (first | exact ag_refl | refine ag_upd rfl ?_ | refine ag_at rfl rfl ?_))⟩
        · rw [d1, cond_true] at hsn
          rw [← hsn] at hap
          repeat (first | refine gG ?_ | refine zN1 (fun hlen => ?_) | refine zN2 (fun hlen => ?_) | refine zAl (fun _ => ?_) | refine zAp (fun _ => ?_))
          refine zIx (j) (hj') ?_
          repeat (first | refine gG ?_ | refine zN1 (fun hlen => ?_) | refine zN2 (fun hlen => ?_) | refine zAl (fun _ => ?_) | refine zAp (fun _ => ?_))
          refine zEl (hat) (Md.ts_len _) ?_
          repeat (first | refine gG ?_ | refine zN1 (fun hlen => ?_) | refine zN2 (fun hlen => ?_) | refine zAl (fun _ => ?_) | refine zAp (fun _ => ?_))
          refine zLkso 9 3 hlk hlc ?_
          repeat (first | refine gG ?_ | refine zN1 (fun hlen => ?_) | refine zN2 (fun hlen => ?_) | refine zAl (fun _ => ?_) | refine zAp (fun _ => ?_))
          exact ⟨(j + 1, _), hj', by simp only; omega, x_wkd 3 ⟨rfl, rfl, trivial⟩ (by dsimp only; rw [hX, hap.1, hap.2]; rfl) (by repeat (first | exact ag_refl | refine ag_upd rfl ?_ | refine ag_at rfl rfl ?_))⟩
    have hj' : j = l.length := by
      have : ¬ j < l.length := by simpa using h
      omega
    subst hj'
    clear h hj hWk hul
    generalize refTo root l ps l.length = W at *
    refine x_fz 13 rfl rfl rfl rfl ?_
    repeat (first | refine gG ?_ | refine zN1 (fun hlen => ?_) | refine zN2 (fun hlen => ?_) | refine zAl (fun _ => ?_) | refine zAp (fun _ => ?_))
    refine x_loop [10, 11, 12, 19, 20, 21, 70, 71, 72, 73, 74, 75, 76, 77, 78, 79, 80, 81, 82, 83, 84, 85, 86, 87, 88, 89, 90, 91, 92, 93, 94, 95, 96, 97, 98, 99, 100, 101, 102, 103, 104, 105, 106, 107, 108] (fun j : Nat => [(70, .c (.lit (.int .i64 (j : Nat)))), (12, .c (.lit (.string (onm (openP P (W.take j))))))]) (fun _ => [.mp b (mkeys Value.string (mapT iT ps)), .box bst 3 [.c (.lit (.int .i64 st1))], .dead]) (fun j => j ≤ W.length ∧ ∀ u ∈ W.take j, okW P u = true) (fun j => W.length - j) 0 ⟨Nat.zero_le _, fun u hu => by rw [List.take_zero] at hu; cases hu⟩ ⟨rfl, rfl, trivial⟩ rfl ?_
    rintro j ⟨hj, hok⟩
    repeat (first | refine gG ?_ | refine zN1 (fun hlen => ?_) | refine zN2 (fun hlen => ?_) | refine zAl (fun _ => ?_) | refine zAp (fun _ => ?_))
    refine x_cond rfl (fun h => ?_) (fun h => ?_)
    · have hj' : j < W.length := by simpa using h
      obtain ⟨u, hu⟩ := nth hj'
      have hat := Us.at hu
      have hsn := openP_snoc (P := P) hu
      have hokn : okW P u = true → ∀ w ∈ W.take (j + 1), okW P w = true := fun h w hw => by
        obtain ⟨h1, h2⟩ := List.getElem?_eq_some_iff.1 hu
        rw [List.take_succ_eq_append_getElem h1, h2] at hw
        rcases List.mem_append.1 hw with hw | hw
        · exact hok w hw
        · rw [List.mem_singleton.1 hw]; exact h
      have hbad : okW P u = false → (bif satP W P then cp else none) = none := fun h => by
        have : satP W P = false := by
          unfold satP
          rw [List.all_eq_false]
          exact ⟨u, List.mem_of_getElem? hu, by rw [h]; simp⟩
        rw [this]; rfl
      have hun := hWn u (List.mem_of_getElem? hu)
      have hon : ∀ n, openP P (W.take j) = some n → n ≠ ⟨#[]⟩ := fun n hn => by
        obtain ⟨w, hw, rfl⟩ := (openP_not hn).2
        exact hWn w (List.mem_of_mem_take hw)
      have hgp := hR.get u.name
      have hoku : okW P u = match gget u.name P with | none => true | some m => inV u m.version := rfl
      clear h hu hWn hc0 hc1 ih hk hP hR hl hru hok
      generalize openP P (W.take j) = o at *
      generalize hO : openP P (W.take (j + 1)) = o' at *
      rcases hg : gget u.name P with _ | m
      · rw [hg] at hgp hoku
        obtain ⟨hlk, hlc⟩ := lki_none (ps := ps) hgp
        replace hokn := hokn hoku
        obtain ⟨hs1, hs2⟩ := openStep_at hg
        clear hg hoku hgp hbad
        obtain ⟨un, ulo, uhi⟩ := u
        dsimp only at hlk hlc hs1 hs2
        cases o with
        | none =>
          replace hsn : o' = some un := hsn.trans hs1
          have d0 : decide ((⟨#[]⟩ : ByteArray) = ⟨#[]⟩) = true := decide_eq_true rfl
          clear hs1 hs2 hon
          repeat (first | refine gG ?_ | refine zN1 (fun hlen => ?_) | refine zN2 (fun hlen => ?_) | refine zAl (fun _ => ?_) | refine zAp (fun _ => ?_))
          refine zIx (j) (hj') ?_
          repeat (first | refine gG ?_ | refine zN1 (fun hlen => ?_) | refine zN2 (fun hlen => ?_) | refine zAl (fun _ => ?_) | refine zAp (fun _ => ?_))
          refine zEl (hat) (Us.ts_len _) ?_
          repeat (first | refine gG ?_ | refine zN1 (fun hlen => ?_) | refine zN2 (fun hlen => ?_) | refine zAl (fun _ => ?_) | refine zAp (fun _ => ?_))
          refine zLkso 9 3 hlk hlc ?_
          repeat (first | refine gG ?_ | refine zN1 (fun hlen => ?_) | refine zN2 (fun hlen => ?_) | refine zAl (fun _ => ?_) | refine zAp (fun _ => ?_))
          exact ⟨j + 1, ⟨hj', hokn⟩, by omega, x_wkd 3 ⟨rfl, by rw [hO, hsn]; rfl, trivial⟩ rfl (by repeat (first | exact ag_refl | refine ag_upd rfl ?_ | refine ag_at rfl rfl ?_))⟩
        | some n =>
          replace hsn : o' = bif strLt un n then some un else some n := hsn.trans (hs2 n)
          have d0 : decide (n = (⟨#[]⟩ : ByteArray)) = false := decide_eq_false (hon n rfl)
          clear hs1 hs2 hon
          cases d1 : strLt un n
          · rw [d1] at hsn
            replace hsn : o' = some n := hsn
            repeat (first | refine gG ?_ | refine zN1 (fun hlen => ?_) | refine zN2 (fun hlen => ?_) | refine zAl (fun _ => ?_) | refine zAp (fun _ => ?_))
            refine zIx (j) (hj') ?_
            repeat (first | refine gG ?_ | refine zN1 (fun hlen => ?_) | refine zN2 (fun hlen => ?_) | refine zAl (fun _ => ?_) | refine zAp (fun _ => ?_))
            refine zEl (hat) (Us.ts_len _) ?_
            repeat (first | refine gG ?_ | refine zN1 (fun hlen => ?_) | refine zN2 (fun hlen => ?_) | refine zAl (fun _ => ?_) | refine zAp (fun _ => ?_))
            refine zLkso 9 3 hlk hlc ?_
            repeat (first | refine gG ?_ | refine zN1 (fun hlen => ?_) | refine zN2 (fun hlen => ?_) | refine zAl (fun _ => ?_) | refine zAp (fun _ => ?_))
            exact ⟨j + 1, ⟨hj', hokn⟩, by omega, x_wkd 3 ⟨rfl, by rw [hO, hsn]; rfl, trivial⟩ rfl (by repeat (first | exact ag_refl | refine ag_upd rfl ?_ | refine ag_at rfl rfl ?_))⟩
          · rw [d1] at hsn
            replace hsn : o' = some un := hsn
            repeat (first | refine gG ?_ | refine zN1 (fun hlen => ?_) | refine zN2 (fun hlen => ?_) | refine zAl (fun _ => ?_) | refine zAp (fun _ => ?_))
            refine zIx (j) (hj') ?_
            repeat (first | refine gG ?_ | refine zN1 (fun hlen => ?_) | refine zN2 (fun hlen => ?_) | refine zAl (fun _ => ?_) | refine zAp (fun _ => ?_))
            refine zEl (hat) (Us.ts_len _) ?_
            repeat (first | refine gG ?_ | refine zN1 (fun hlen => ?_) | refine zN2 (fun hlen => ?_) | refine zAl (fun _ => ?_) | refine zAp (fun _ => ?_))
            refine zLkso 9 3 hlk hlc ?_
            repeat (first | refine gG ?_ | refine zN1 (fun hlen => ?_) | refine zN2 (fun hlen => ?_) | refine zAl (fun _ => ?_) | refine zAp (fun _ => ?_))
            exact ⟨j + 1, ⟨hj', hokn⟩, by omega, x_wkd 3 ⟨rfl, by rw [hO, hsn]; rfl, trivial⟩ rfl (by repeat (first | exact ag_refl | refine ag_upd rfl ?_ | refine ag_at rfl rfl ?_))⟩
      · rw [hg] at hgp hoku
        obtain ⟨hlk, hlc⟩ := lki_some (ps := ps) hgp
        replace hsn : o' = o := hsn.trans (openStep_in hg o)
        replace hoku : okW P u = !(decide (m.version < u.low) || decide (u.high < m.version)) := hoku
        clear hg hgp hon
        generalize m.version = v at *
        obtain ⟨un, ulo, uhi⟩ := u
        dsimp only at hlk hlc hoku
        cases d1 : decide (v < ulo)
        · cases d2 : decide (uhi < v)
          · rw [d1, d2] at hoku
            replace hokn := hokn hoku
            clear hbad
            repeat (first | refine gG ?_ | refine zN1 (fun hlen => ?_) | refine zN2 (fun hlen => ?_) | refine zAl (fun _ => ?_) | refine zAp (fun _ => ?_))
            refine zIx (j) (hj') ?_
            repeat (first | refine gG ?_ | refine zN1 (fun hlen => ?_) | refine zN2 (fun hlen => ?_) | refine zAl (fun _ => ?_) | refine zAp (fun _ => ?_))
            refine zEl (hat) (Us.ts_len _) ?_
            repeat (first | refine gG ?_ | refine zN1 (fun hlen => ?_) | refine zN2 (fun hlen => ?_) | refine zAl (fun _ => ?_) | refine zAp (fun _ => ?_))
            refine zLkso 9 3 hlk hlc ?_
            repeat (first | refine gG ?_ | refine zN1 (fun hlen => ?_) | refine zN2 (fun hlen => ?_) | refine zAl (fun _ => ?_) | refine zAp (fun _ => ?_))
            exact ⟨j + 1, ⟨hj', hokn⟩, by omega, x_wkd 3 ⟨rfl, by rw [hO, hsn]; rfl, trivial⟩ rfl (by repeat (first | exact ag_refl | refine ag_upd rfl ?_ | refine ag_at rfl rfl ?_))⟩
          · rw [d1, d2] at hoku
            replace hbad := hbad hoku
            rw [hbad]
            clear hokn hbad
            repeat (first | refine gG ?_ | refine zN1 (fun hlen => ?_) | refine zN2 (fun hlen => ?_) | refine zAl (fun _ => ?_) | refine zAp (fun _ => ?_))
            refine zIx (j) (hj') ?_
            repeat (first | refine gG ?_ | refine zN1 (fun hlen => ?_) | refine zN2 (fun hlen => ?_) | refine zAl (fun _ => ?_) | refine zAp (fun _ => ?_))
            refine zEl (hat) (Us.ts_len _) ?_
            repeat (first | refine gG ?_ | refine zN1 (fun hlen => ?_) | refine zN2 (fun hlen => ?_) | refine zAl (fun _ => ?_) | refine zAp (fun _ => ?_))
            refine zLkso 9 3 hlk hlc ?_
            repeat (first | refine gG ?_ | refine zN1 (fun hlen => ?_) | refine zN2 (fun hlen => ?_) | refine zAl (fun _ => ?_) | refine zAp (fun _ => ?_))
            refine zG ?_
            exact ⟨st1, .inl ⟨rfl, rfl, rfl⟩⟩
        · rw [d1] at hoku
          replace hbad := hbad hoku
          rw [hbad]
          clear hokn hbad
          repeat (first | refine gG ?_ | refine zN1 (fun hlen => ?_) | refine zN2 (fun hlen => ?_) | refine zAl (fun _ => ?_) | refine zAp (fun _ => ?_))
          refine zIx (j) (hj') ?_
          repeat (first | refine gG ?_ | refine zN1 (fun hlen => ?_) | refine zN2 (fun hlen => ?_) | refine zAl (fun _ => ?_) | refine zAp (fun _ => ?_))
          refine zEl (hat) (Us.ts_len _) ?_
          repeat (first | refine gG ?_ | refine zN1 (fun hlen => ?_) | refine zN2 (fun hlen => ?_) | refine zAl (fun _ => ?_) | refine zAp (fun _ => ?_))
          refine zLkso 9 3 hlk hlc ?_
          repeat (first | refine gG ?_ | refine zN1 (fun hlen => ?_) | refine zN2 (fun hlen => ?_) | refine zAl (fun _ => ?_) | refine zAp (fun _ => ?_))
          refine zG ?_
          exact ⟨st1, .inl ⟨rfl, rfl, rfl⟩⟩
    have hj' : j = W.length := by
      have : ¬ j < W.length := by simpa using h
      omega
    subst hj'
    rw [List.take_length] at hok ⊢
    have hsat : satP W P = true := by unfold satP; rw [List.all_eq_true]; exact hok
    rw [hsat, cond_true]
    have hne : ∀ n, openP P W = some n → n ≠ ⟨#[]⟩ := fun n hn => by
      obtain ⟨w, hw, rfl⟩ := (openP_not hn).2
      exact hWn w hw
    clear h hj hok hsat hWn
    cases ho : openP P W with
    | none =>
      have hcp := hc0 ho
      rw [hcp]
      have d0 : decide ((⟨#[]⟩ : ByteArray) = ⟨#[]⟩) = true := decide_eq_true rfl
      have hnm : onm none = ⟨#[]⟩ := rfl
      rw [hnm]
      clear hc0 hc1 ih hk hP hl hru ho hne
      repeat (first | refine gG ?_ | refine zN1 (fun hlen => ?_) | refine zN2 (fun hlen => ?_) | refine zAl (fun _ => ?_) | refine zAp (fun _ => ?_))
      refine zG ?_
      exact ⟨st1, .inr ⟨P, _, b, ps, rfl, hR, rfl, .inl ⟨rfl, rfl, rfl⟩⟩⟩
    | some n =>
      have hcp := hc1 n ho
      have hnP := (openP_not ho).1
      have d0 : decide (n = (⟨#[]⟩ : ByteArray)) = false := decide_eq_false (hne n ho)
      rw [hcp]
      clear hc0 hc1 hne ho hcp
      refine x_keep [(0, .c (Md.row l)), (1, .c (Us.row root)), (2, .c (Pk.row fs)), (3, .own 0 (.map (some b))), (4, .ptr 1 bst 0), (12, .c (.lit (.string n)))] ⟨rfl, rfl, rfl, rfl, rfl, rfl, trivial⟩ ?_
      repeat (first | refine gG ?_ | refine zN1 (fun hlen => ?_) | refine zN2 (fun hlen => ?_) | refine zAl (fun _ => ?_) | refine zAp (fun _ => ?_))
      refine x_own 22 3 1 rfl rfl rfl rfl rfl ?_
      refine x_loop [22, 23, 24, 25, 27, 112, 113, 114, 115, 116, 117, 118, 119, 120, 121, 122, 123, 124, 125, 126, 127, 128, 129, 130, 131, 132, 133, 134, 135, 136, 137, 138, 139, 140, 141, 142, 143, 144, 145, 146, 147, 148, 149, 150, 151, 152, 153, 154, 155, 156, 157, 158, 159, 160, 161, 162, 163, 164, 165, 166, 167] (fun y : Nat × Value => [(23, .c (.lit (.int .i64 (y.1 : Nat)))), (22, .own 3 y.2)]) (fun y => [.mp b (mkeys Value.string (mapT iT ps)), .box bst 3 [.c (.lit (.int .i64 st1))], .dead, .row y.2 3 1 (tryTo l fs n y.1).length ((tryTo l fs n y.1).map mvT)])
        (fun y => y.1 ≤ 2) (fun y => 2 - y.1) (0, .slice none 0 0) (by decide) ⟨rfl, rfl, trivial⟩ rfl ?_
      rintro ⟨p, v22⟩ hp
      dsimp only at hp ⊢
      repeat (first | refine gG ?_ | refine zN1 (fun hlen => ?_) | refine zN2 (fun hlen => ?_) | refine zAl (fun _ => ?_) | refine zAp (fun _ => ?_))
      refine x_cond rfl (fun h => ?_) (fun h => ?_)
      · have hp' : p < 2 := by have := of_decide_eq_true h; omega
        have hnx := try_next l fs n p hp'
        have hXl := try_len l fs n p
        have hz : decide (((p : Nat) : Int) = 0) = decide (p = 0) := decide_eq_decide.2 (by omega)
        clear h ih hk hP hR hl hru hnP
        generalize tryTo l fs n p = X at *
        generalize hX : tryTo l fs n (p + 1) = X' at *
        generalize decide (p = 0) = z at *
        repeat (first | refine gG ?_ | refine zN1 (fun hlen => ?_) | refine zN2 (fun hlen => ?_) | refine zAl (fun _ => ?_) | refine zAp (fun _ => ?_))
        refine lo_sub rfl rfl (r := iv l.length) (by rw [iv_len, IntWalk.i64_in _ (by omega)]) ?_
        repeat (first | refine gG ?_ | refine zN1 (fun hlen => ?_) | refine zN2 (fun hlen => ?_) | refine zAl (fun _ => ?_) | refine zAp (fun _ => ?_))
        refine x_loop [22, 24, 25, 27, 119, 120, 121, 122, 123, 124, 125, 126, 127, 128, 129, 130, 131, 132, 133, 134, 135, 136, 137, 138, 139, 140, 141, 142, 143, 144, 145, 146, 147, 148, 149, 150, 151, 152, 153, 154, 155, 156, 157, 158, 159, 160, 161, 162, 163, 164, 165, 166, 167] (fun y : Nat × Value => [(24, .c (.lit (.int .i64 (iv y.1)))), (22, .own 3 y.2)]) (fun y => [.mp b (mkeys Value.string (mapT iT ps)), .box bst 3 [.c (.lit (.int .i64 st1))], .dead, .row y.2 3 1 (X ++ selL fs n z (l.drop y.1).reverse).length ((X ++ selL fs n z (l.drop y.1).reverse).map mvT)])
          (fun y => y.1 ≤ l.length) (fun y => y.1) (l.length, v22) (Nat.le_refl _) ⟨rfl, rfl, trivial⟩ (by dsimp only; rw [List.drop_length, show selL fs n z ([] : List Md).reverse = [] from rfl, List.append_nil]) ?_
        rintro ⟨i, w22⟩ hi
        dsimp only at hi ⊢
        cases i with
        | zero =>
          have d1 : decide ((0 : Int) ≤ -1) = false := rfl
          have hzv : iv 0 = -1 := rfl
          rw [hzv, List.drop_zero, ← hnx]
          clear hz
          repeat (first | refine gG ?_ | refine zN1 (fun hlen => ?_) | refine zN2 (fun hlen => ?_) | refine zAl (fun _ => ?_) | refine zAp (fun _ => ?_))
          exact ⟨(p + 1, w22), by simp only; omega, by simp only; omega, x_wkd 4 ⟨rfl, rfl, trivial⟩ (by dsimp only; rw [hX]; rfl) (by repeat (first | exact ag_refl | refine ag_upd rfl ?_ | refine ag_at rfl rfl ?_))⟩
        | succ i =>
          have d1 : decide ((0 : Int) ≤ ((i : Nat) : Int)) = true := decide_eq_true (by omega)
          have hi' : i < l.length := by omega
          obtain ⟨m, hm⟩ := nth hi'
          have hdr := drop_rev hm
          have hss := sel_snoc fs n z (l.drop (i + 1)).reverse m
          rw [← hdr] at hss
          have hsl := sel_len fs n z (l.drop (i + 1)).reverse
          rw [List.length_reverse, List.length_drop] at hsl
          have g0 : (l.flatMap Md.ts)[i * 3 + 0]? = some (.lit (.string m.name)) := flat_get Md.ts 3 Md.ts_len hm (j := 0) (by omega)
          have gv : (l.flatMap Md.ts)[i * 3 + 1]? = some (.lit (.int .i64 m.version)) := flat_get Md.ts 3 Md.ts_len hm (j := 1) (by omega)
          have hla := fun h => likedTo_all (fs := fs) (n := n) (m := m) h
          have hnb : nameB n m = decide (m.name = n) := rfl
          have hsub : IntKind.i64.wrap (((i : Nat) : Int) - 1) = iv i := by rw [iv_len, IntWalk.i64_in _ (by omega)]
          have hiv : iv (i + 1) = ((i : Nat) : Int) := rfl
          rw [hnb] at hss
          rw [hiv]
          clear hdr hm hnb hnx
          generalize selL fs n z (l.drop (i + 1)).reverse = Y at *
          generalize hY : selL fs n z (l.drop i).reverse = Y' at *
          generalize likedB fs m = lk at *
          have hmv := mv_snoc (X ++ Y) m
          generalize m.version = mv at *
          generalize m.name = mn at *
          repeat (first | refine gG ?_ | refine zN1 (fun hlen => ?_) | refine zN2 (fun hlen => ?_) | refine zAl (fun _ => ?_) | refine zAp (fun _ => ?_))
          refine x_loop [25, 27, 125, 126, 127, 128, 129, 130, 131, 132, 133, 134, 135, 136, 137, 138, 139, 140, 141, 142, 143, 144, 145, 146] (fun j : Nat => [(125, .c (.lit (.int .i64 (j : Nat)))), (25, .c (.lit (.bool (likedTo fs n mv j))))]) (fun _ => [.mp b (mkeys Value.string (mapT iT ps)), .box bst 3 [.c (.lit (.int .i64 st1))], .dead, .row w22 3 1 (X ++ Y).length ((X ++ Y).map mvT)])
            (fun j => j ≤ fs.length) (fun j => fs.length - j) 0 (Nat.zero_le _) ⟨rfl, rfl, trivial⟩ rfl ?_
          rintro j hj
          repeat (first | refine gG ?_ | refine zN1 (fun hlen => ?_) | refine zN2 (fun hlen => ?_) | refine zAl (fun _ => ?_) | refine zAp (fun _ => ?_))
          refine x_cond rfl (fun h => ?_) (fun h => ?_)
          · have hj' : j < fs.length := by simpa using h
            obtain ⟨q, hq⟩ := nth hj'
            have hat := Pk.at hq
            have hls := likedTo_snoc (n := n) (v := mv) hq
            clear h hq hla hss hz hmv
            generalize likedTo fs n mv j = c at *
            generalize hC : likedTo fs n mv (j + 1) = c' at *
            obtain ⟨pn, pv⟩ := q
            dsimp only at hls
            cases c
            · cases d2 : decide (pn = n)
              · rw [d2] at hls
                replace hls : c' = false := hls
                repeat (first | refine gG ?_ | refine zN1 (fun hlen => ?_) | refine zN2 (fun hlen => ?_) | refine zAl (fun _ => ?_) | refine zAp (fun _ => ?_))
                refine zIx (j) (hj') ?_
                repeat (first | refine gG ?_ | refine zN1 (fun hlen => ?_) | refine zN2 (fun hlen => ?_) | refine zAl (fun _ => ?_) | refine zAp (fun _ => ?_))
                refine zEl (hat) (Pk.ts_len _) ?_
                repeat (first | refine gG ?_ | refine zN1 (fun hlen => ?_) | refine zN2 (fun hlen => ?_) | refine zAl (fun _ => ?_) | refine zAp (fun _ => ?_))
                refine ac_draw [1, 1, 1, 1, 1, 1, 1, 1, 1, 1, 1, 1, 1, 1, 1, 1, 1, 1] [0, 1, 2, 3, 4, 5, 6, 7, 8, 9, 10, 11, 12, 13, 14, 15, 16, 17] (by kernel_rfl) (by kernel_rfl) ?_
                refine gW ?_
                refine w_nil ?_
                repeat (first | refine gG ?_ | refine zN1 (fun hlen => ?_) | refine zN2 (fun hlen => ?_) | refine zAl (fun _ => ?_) | refine zAp (fun _ => ?_))
                exact ⟨j + 1, hj', by omega, x_wkd 4 ⟨rfl, by rw [hC, hls]; rfl, trivial⟩ rfl (by repeat (first | exact ag_refl | refine ag_upd rfl ?_ | refine ag_at rfl rfl ?_))⟩
              · rw [d2] at hls
                replace hls : c' = decide (pv = mv) := hls
                cases d3 : decide (pv = mv)
                · rw [d3] at hls
                  repeat (first | refine gG ?_ | refine zN1 (fun hlen => ?_) | refine zN2 (fun hlen => ?_) | refine zAl (fun _ => ?_) | refine zAp (fun _ => ?_))
                  refine zIx (j) (hj') ?_
                  repeat (first | refine gG ?_ | refine zN1 (fun hlen => ?_) | refine zN2 (fun hlen => ?_) | refine zAl (fun _ => ?_) | refine zAp (fun _ => ?_))
                  refine zEl (hat) (Pk.ts_len _) ?_
                  repeat (first | refine gG ?_ | refine zN1 (fun hlen => ?_) | refine zN2 (fun hlen => ?_) | refine zAl (fun _ => ?_) | refine zAp (fun _ => ?_))
                  refine ac_draw [1, 1, 1, 1, 1, 1, 1, 1, 1, 1, 1, 1, 1, 1, 1, 1, 1, 1] [0, 1, 2, 3, 4, 5, 6, 7, 8, 9, 10, 11, 12, 13, 14, 15, 16, 17] (by kernel_rfl) (by kernel_rfl) ?_
                  refine gW ?_
                  try (first | (apply w_un; (focus exact rfl); (focus exact rfl); (focus exact rfl); (focus exact rfl)) | (apply w_no; (focus exact rfl); (focus exact rfl); (focus exact rfl); (focus exact rfl); focus (first | rfl | assumption | exact neg_t (by assumption) | exact neg_f (by assumption))) | (apply w_qg; (focus exact rfl); (focus exact rfl); (focus exact rfl); (focus exact rfl); (focus (first | rfl | assumption | exact neg_t (by assumption) | exact neg_f (by assumption))); (focus (intro _; (refine zIx i hi' ?_); exact det_refl))))
                  try refine gW ?_
                  try (first | (apply w_un; (focus exact rfl); (focus exact rfl); (focus exact rfl); (focus exact rfl)) | (apply w_no; (focus exact rfl); (focus exact rfl); (focus exact rfl); (focus exact rfl); focus (first | rfl | assumption | exact neg_t (by assumption) | exact neg_f (by assumption))) | (apply w_qg; (focus exact rfl); (focus exact rfl); (focus exact rfl); (focus exact rfl); (focus (first | rfl | assumption | exact neg_t (by assumption) | exact neg_f (by assumption))); (focus (intro _; (refine zEl1 gv ?_); exact det_refl))))
                  try refine gW ?_
                  refine w_nil ?_
                  repeat (first | refine gG ?_ | refine zN1 (fun hlen => ?_) | refine zN2 (fun hlen => ?_) | refine zAl (fun _ => ?_) | refine zAp (fun _ => ?_))
                  exact ⟨j + 1, hj', by omega, x_wkd 4 ⟨rfl, by rw [hC, hls]; first | rfl | (rw [d3]; rfl), trivial⟩ rfl (by repeat (first | exact ag_refl | refine ag_upd rfl ?_ | refine ag_at rfl rfl ?_))⟩
                · rw [d3] at hls
                  repeat (first | refine gG ?_ | refine zN1 (fun hlen => ?_) | refine zN2 (fun hlen => ?_) | refine zAl (fun _ => ?_) | refine zAp (fun _ => ?_))
                  refine zIx (j) (hj') ?_
                  repeat (first | refine gG ?_ | refine zN1 (fun hlen => ?_) | refine zN2 (fun hlen => ?_) | refine zAl (fun _ => ?_) | refine zAp (fun _ => ?_))
                  refine zEl (hat) (Pk.ts_len _) ?_
                  repeat (first | refine gG ?_ | refine zN1 (fun hlen => ?_) | refine zN2 (fun hlen => ?_) | refine zAl (fun _ => ?_) | refine zAp (fun _ => ?_))
                  refine ac_draw [1, 1, 1, 1, 1, 1, 1, 1, 1, 1, 1, 1, 1, 1, 1, 1, 1, 1] [0, 1, 2, 3, 4, 5, 6, 7, 8, 9, 10, 11, 12, 13, 14, 15, 16, 17] (by kernel_rfl) (by kernel_rfl) ?_
                  refine gW ?_
                  try (first | (apply w_un; (focus exact rfl); (focus exact rfl); (focus exact rfl); (focus exact rfl)) | (apply w_no; (focus exact rfl); (focus exact rfl); (focus exact rfl); (focus exact rfl); focus (first | rfl | assumption | exact neg_t (by assumption) | exact neg_f (by assumption))) | (apply w_qg; (focus exact rfl); (focus exact rfl); (focus exact rfl); (focus exact rfl); (focus (first | rfl | assumption | exact neg_t (by assumption) | exact neg_f (by assumption))); (focus (intro _; (refine zIx i hi' ?_); exact det_refl))))
                  try refine gW ?_
                  try (first | (apply w_un; (focus exact rfl); (focus exact rfl); (focus exact rfl); (focus exact rfl)) | (apply w_no; (focus exact rfl); (focus exact rfl); (focus exact rfl); (focus exact rfl); focus (first | rfl | assumption | exact neg_t (by assumption) | exact neg_f (by assumption))) | (apply w_qg; (focus exact rfl); (focus exact rfl); (focus exact rfl); (focus exact rfl); (focus (first | rfl | assumption | exact neg_t (by assumption) | exact neg_f (by assumption))); (focus (intro _; (refine zEl1 gv ?_); exact det_refl))))
                  try refine gW ?_
                  refine w_nil ?_
                  repeat (first | refine gG ?_ | refine zN1 (fun hlen => ?_) | refine zN2 (fun hlen => ?_) | refine zAl (fun _ => ?_) | refine zAp (fun _ => ?_))
                  exact ⟨j + 1, hj', by omega, x_wkd 4 ⟨rfl, by rw [hC, hls]; first | rfl | (rw [d3]; rfl), trivial⟩ rfl (by repeat (first | exact ag_refl | refine ag_upd rfl ?_ | refine ag_at rfl rfl ?_))⟩
            · replace hls : c' = true := hls
              repeat (first | refine gG ?_ | refine zN1 (fun hlen => ?_) | refine zN2 (fun hlen => ?_) | refine zAl (fun _ => ?_) | refine zAp (fun _ => ?_))
              refine zIx (j) (hj') ?_
              repeat (first | refine gG ?_ | refine zN1 (fun hlen => ?_) | refine zN2 (fun hlen => ?_) | refine zAl (fun _ => ?_) | refine zAp (fun _ => ?_))
              refine zEl (hat) (Pk.ts_len _) ?_
              repeat (first | refine gG ?_ | refine zN1 (fun hlen => ?_) | refine zN2 (fun hlen => ?_) | refine zAl (fun _ => ?_) | refine zAp (fun _ => ?_))
              refine ac_draw [1, 1, 1, 1, 1, 1, 1, 1, 1, 1, 1, 1, 1, 1, 1, 1, 1, 1] [0, 1, 2, 3, 4, 5, 6, 7, 8, 9, 10, 11, 12, 13, 14, 15, 16, 17] (by kernel_rfl) (by kernel_rfl) ?_
              refine gW ?_
              refine w_nil ?_
              repeat (first | refine gG ?_ | refine zN1 (fun hlen => ?_) | refine zN2 (fun hlen => ?_) | refine zAl (fun _ => ?_) | refine zAp (fun _ => ?_))
              exact ⟨j + 1, hj', by omega, x_wkd 4 ⟨rfl, by rw [hC, hls]; rfl, trivial⟩ rfl (by repeat (first | exact ag_refl | refine ag_upd rfl ?_ | refine ag_at rfl rfl ?_))⟩
          · have hj' : j = fs.length := by
              have : ¬ j < fs.length := by simpa using h
              omega
            subst hj'
            clear h hj
            cases d2 : decide (mn = n)
            · rw [d2, Bool.false_and, cond_false, List.append_nil] at hss
              clear hla
              repeat (first | refine gG ?_ | refine zN1 (fun hlen => ?_) | refine zN2 (fun hlen => ?_) | refine zAl (fun _ => ?_) | refine zAp (fun _ => ?_))
              refine zIx i hi' ?_
              repeat (first | refine gG ?_ | refine zN1 (fun hlen => ?_) | refine zN2 (fun hlen => ?_) | refine zAl (fun _ => ?_) | refine zAp (fun _ => ?_))
              refine zEl1 g0 ?_
              repeat (first | refine gG ?_ | refine zN1 (fun hlen => ?_) | refine zN2 (fun hlen => ?_) | refine zAl (fun _ => ?_) | refine zAp (fun _ => ?_))
              refine lo_sub rfl rfl (r := iv i) hsub ?_
              repeat (first | refine gG ?_ | refine zN1 (fun hlen => ?_) | refine zN2 (fun hlen => ?_) | refine zAl (fun _ => ?_) | refine zAp (fun _ => ?_))
              exact ⟨(i, w22), by simp only; omega, by simp only; omega, x_wkd 4 ⟨rfl, rfl, trivial⟩ (by dsimp only; rw [hY, hss]; rfl) (by repeat (first | exact ag_refl | refine ag_upd rfl ?_ | refine ag_at rfl rfl ?_))⟩
            · replace hla := hla (of_decide_eq_true d2)
              rw [d2, Bool.true_and] at hss
              rw [hla]
              clear hla
              cases hlz : (lk == z)
              · rw [hlz, cond_false, List.append_nil] at hss
                have hbb : decide (lk = decide (((p : Nat) : Int) = 0)) = false := by rw [hz]; cases lk <;> cases z <;> simp_all
                repeat (first | refine gG ?_ | refine zN1 (fun hlen => ?_) | refine zN2 (fun hlen => ?_) | refine zAl (fun _ => ?_) | refine zAp (fun _ => ?_))
                refine zIx i hi' ?_
                repeat (first | refine gG ?_ | refine zN1 (fun hlen => ?_) | refine zN2 (fun hlen => ?_) | refine zAl (fun _ => ?_) | refine zAp (fun _ => ?_))
                refine zEl1 g0 ?_
                repeat (first | refine gG ?_ | refine zN1 (fun hlen => ?_) | refine zN2 (fun hlen => ?_) | refine zAl (fun _ => ?_) | refine zAp (fun _ => ?_))
                refine lo_eqbr (r := false) hbb ?_
                repeat (first | refine gG ?_ | refine zN1 (fun hlen => ?_) | refine zN2 (fun hlen => ?_) | refine zAl (fun _ => ?_) | refine zAp (fun _ => ?_))
                refine lo_sub rfl rfl (r := iv i) hsub ?_
                repeat (first | refine gG ?_ | refine zN1 (fun hlen => ?_) | refine zN2 (fun hlen => ?_) | refine zAl (fun _ => ?_) | refine zAp (fun _ => ?_))
                exact ⟨(i, w22), by simp only; omega, by simp only; omega, x_wkd 4 ⟨rfl, rfl, trivial⟩ (by dsimp only; rw [hY, hss]; rfl) (by repeat (first | exact ag_refl | refine ag_upd rfl ?_ | refine ag_at rfl rfl ?_))⟩
              · rw [hlz, cond_true] at hss
                have hbb : decide (lk = decide (((p : Nat) : Int) = 0)) = true := by rw [hz]; cases lk <;> cases z <;> simp_all
                have hle : (X ++ Y).length ≤ 90 := by rw [List.length_append]; omega
                have he : X ++ Y' = (X ++ Y) ++ [m] := by rw [hss, List.append_assoc]
                rw [← he] at hmv
                repeat (first | refine gG ?_ | refine zN1 (fun hlen => ?_) | refine zN2 (fun hlen => ?_) | refine zAl (fun _ => ?_) | refine zAp (fun _ => ?_))
                refine zIx i hi' ?_
                repeat (first | refine gG ?_ | refine zN1 (fun hlen => ?_) | refine zN2 (fun hlen => ?_) | refine zAl (fun _ => ?_) | refine zAp (fun _ => ?_))
                refine zEl1 g0 ?_
                repeat (first | refine gG ?_ | refine zN1 (fun hlen => ?_) | refine zN2 (fun hlen => ?_) | refine zAl (fun _ => ?_) | refine zAp (fun _ => ?_))
                refine lo_eqbr (r := true) hbb ?_
                repeat (first | refine gG ?_ | refine zN1 (fun hlen => ?_) | refine zN2 (fun hlen => ?_) | refine zAl (fun _ => ?_) | refine zAp (fun _ => ?_))
                refine zIx i hi' ?_
                repeat (first | refine gG ?_ | refine zN1 (fun hlen => ?_) | refine zN2 (fun hlen => ?_) | refine zAl (fun _ => ?_) | refine zAp (fun _ => ?_))
                refine zEl1 gv ?_
                repeat (first | refine gG ?_ | refine zN1 (fun hlen => ?_) | refine zN2 (fun hlen => ?_) | refine zAl (fun _ => ?_) | refine zAp (fun _ => ?_))
                refine lo_sub rfl rfl (r := iv i) hsub ?_
                repeat (first | refine gG ?_ | refine zN1 (fun hlen => ?_) | refine zN2 (fun hlen => ?_) | refine zAl (fun _ => ?_) | refine zAp (fun _ => ?_))
                exact ⟨(i, _), by simp only; omega, by simp only; omega, x_wkd 4 ⟨rfl, rfl, trivial⟩ (by dsimp only; rw [hY, hmv.1, hmv.2]; rfl) (by repeat (first | exact ag_refl | refine ag_upd rfl ?_ | refine ag_at rfl rfl ?_))⟩
      have hp' : p = 2 := by
        have : ¬ ((p : Nat) : Int) < 2 := of_decide_eq_false h
        omega
      subst hp'
      clear h hp
      have hC2 : tryTo l fs n 2 = cand l fs n := rfl
      rw [hC2]
      have hcm := fun m (h : m ∈ cand l fs n) => cand_mem h
      have hcl := cand_len l fs n
      generalize cand l fs n = C at *
      refine x_fz 22 rfl rfl rfl rfl ?_
      repeat (first | refine gG ?_ | refine zN1 (fun hlen => ?_) | refine zN2 (fun hlen => ?_) | refine zAl (fun _ => ?_) | refine zAp (fun _ => ?_))
      refine x_keep [(0, .c (Md.row l)), (1, .c (Us.row root)), (2, .c (Pk.row fs)), (3, .own 0 (.map (some b))), (4, .ptr 1 bst 0), (12, .c (.lit (.string n))), (168, .c (.row C.length 1 (C.map mvT))), (169, .c (.lit (.int .i64 (C.length : Nat)))), (170, .c (.lit (.int .i64 (0 : Nat))))] ⟨rfl, rfl, rfl, rfl, rfl, rfl, rfl, rfl, rfl, trivial⟩ ?_
      refine x_loop [10, 11, 29, 30, 31, 32, 33, 34, 170, 171, 172, 173, 174, 175, 176, 177, 178, 179, 180, 181, 182, 183, 184, 185, 186, 187, 188, 189, 190, 191, 192, 193, 194, 195, 196, 197, 198, 199] (fun y : Nat × Int => [(170, .c (.lit (.int .i64 (y.1 : Nat))))]) (fun y => [.mp b (mkeys Value.string (mapT iT ps)), .box bst 3 [.c (.lit (.int .i64 y.2))], .dead, .dead])
        (fun y => y.1 ≤ C.length ∧ (C.drop y.1).findSome? (fun m => solvedV l fs root k (P ++ [(n, m)])) = C.findSome? fun m => solvedV l fs root k (P ++ [(n, m)])) (fun y => C.length - y.1) (0, st1) ⟨Nat.zero_le _, rfl⟩ ⟨rfl, trivial⟩ rfl ?_
      rintro ⟨j, st2⟩ ⟨hj, hf⟩
      dsimp only at hj hf ⊢
      repeat (first | refine gG ?_ | refine zN1 (fun hlen => ?_) | refine zN2 (fun hlen => ?_) | refine zAl (fun _ => ?_) | refine zAp (fun _ => ?_))
      refine x_cond rfl (fun h => ?_) (fun h => ?_)
      · have hj' : j < C.length := by simpa using h
        obtain ⟨m, hm⟩ := nth hj'
        have g1 := mv_at hm
        have hmm := hcm m (List.mem_of_getElem? hm)
        have hfd := find_drop (g := fun m => solvedV l fs root k (P ++ [(n, m)])) hm
        rw [hf] at hfd
        have hP' := hP.add hnP hmm
        have hpl := hR.len hP.nodup
        have hPl := hP.len
        have hmr := fun is hall => more_rel hR hnP m (is := is) hall hP
        have ih' := fun is hall bq => ih (P ++ [(n, m)]) (moreOf ps n m.version is) bq bst st2 hP' (hmr is hall) (by rw [List.length_append]; simp only [List.length_cons, List.length_nil]; omega)
        clear h hm hf hcm hP' hmr ih hmm hR hP hnP hl hru
        generalize solvedV l fs root k (P ++ [(n, m)]) = so at *
        generalize hcf : (C.drop (j + 1)).findSome? (fun m => solvedV l fs root k (P ++ [(n, m)])) = cf at *
        generalize m.version = mv at *
        repeat (first | refine gG ?_ | refine zN1 (fun hlen => ?_) | refine zN2 (fun hlen => ?_) | refine zAl (fun _ => ?_) | refine zAp (fun _ => ?_))
        refine zIx j hj' ?_
        repeat (first | refine gG ?_ | refine zN1 (fun hlen => ?_) | refine zN2 (fun hlen => ?_) | refine zAl (fun _ => ?_) | refine zAp (fun _ => ?_))
        refine zEl1 g1 ?_
        repeat (first | refine gG ?_ | refine zN1 (fun hlen => ?_) | refine zN2 (fun hlen => ?_) | refine zAl (fun _ => ?_) | refine zAp (fun _ => ?_))
        refine zMm (fun bq => ?_)
        repeat (first | refine gG ?_ | refine zN1 (fun hlen => ?_) | refine zN2 (fun hlen => ?_) | refine zAl (fun _ => ?_) | refine zAp (fun _ => ?_))
        refine lo_ins (zUpt (l := []) (l' := mapT iT [(n, mv)]) 9 3 rfl ?_)
        repeat (first | refine gG ?_ | refine zN1 (fun hlen => ?_) | refine zN2 (fun hlen => ?_) | refine zAl (fun _ => ?_) | refine zAp (fun _ => ?_))
        refine zRg 9 3 (fun b' stm c hsl => ?_)
        repeat (first | refine gG ?_ | refine zN1 (fun hlen => ?_) | refine zN2 (fun hlen => ?_) | refine zAl (fun _ => ?_) | refine zAp (fun _ => ?_))
        refine x_loop [31, 32, 180, 181, 182, 183, 184, 185, 186, 187] (fun _ : List Nat => []) (fun is => [.mpx b (mkeys Value.string (mapT iT ps)) (some (stm, c)), .box bst 3 [.c (.lit (.int .i64 st2))], .dead, .dead, .mp bq (mkeys Value.string (mapT iT (moreOf ps n mv is))), .it b' b stm c is])
          (fun is => is.Nodup ∧ ∀ p ∈ is, p < ps.length) (fun is => ps.length - is.length) [] ⟨List.nodup_nil, fun p hp => by cases hp⟩ trivial rfl ?_
        rintro is ⟨hi1, hi2⟩
        have hil := walk_len hi1 hi2
        repeat (first | refine gG ?_ | refine zN1 (fun hlen => ?_) | refine zN2 (fun hlen => ?_) | refine zAl (fun _ => ?_) | refine zAp (fun _ => ?_))
        refine zNx 0 (fun hd => ?_) (fun kk u t he hn => ?_)
        · have hall : ∀ q, q < ps.length → q ∈ is := fun q hq => hd q (by rw [mk_len]; exact hq)
          replace ih' := ih' is hall bq
          clear hd hall hi1 hi2 hil
          generalize moreOf ps n mv is = ms at *
          repeat (first | refine gO ?_ | refine zN1 (fun hlen => ?_) | refine zN2 (fun hlen => ?_) | refine zAl (fun _ => ?_) | refine zAp (fun _ => ?_))
          refine x_unit 0 ?_
          repeat (first | refine gG ?_ | refine zN1 (fun hlen => ?_) | refine zN2 (fun hlen => ?_) | refine zAl (fun _ => ?_) | refine zAp (fun _ => ?_))
          refine zCallG [4, 1] ih' ?_
          rintro r hs ⟨st3, ⟨rfl, rfl, rfl⟩ | ⟨R, i, b2, rs, rfl, hrel, rfl, ⟨rfl, rfl, rfl⟩ | rfl⟩⟩
          · refine ⟨.tup [.c (.lit (.map none)), .c (.lit (.bool false))], _, re_refl, rfl, rfl, ?_⟩
            clear ih'
            replace hfd : C.findSome? (fun m => solvedV l fs root k (P ++ [(n, m)])) = cf := hfd
            repeat (first | refine gG ?_ | refine zN1 (fun hlen => ?_) | refine zN2 (fun hlen => ?_) | refine zAl (fun _ => ?_) | refine zAp (fun _ => ?_))
            exact ⟨(j + 1, st3), ⟨hj', by dsimp only; rw [hcf, hfd]⟩, by simp only; omega, x_wkd 4 ⟨rfl, trivial⟩ rfl (by repeat (first | exact ag_refl | refine ag_upd rfl ?_ | refine ag_at rfl rfl ?_))⟩
          · refine ⟨.tup [.own 4 (.map (some b2)), .c (.lit (.bool true))], _, re_tup (res_cons re_own (res_cons re_refl res_nil)), rfl, rfl, ?_⟩
            clear ih'
            replace hfd : C.findSome? (fun m => solvedV l fs root k (P ++ [(n, m)])) = some R := hfd
            rw [hfd]
            repeat (first | refine gO ?_ | refine zN1 (fun hlen => ?_) | refine zN2 (fun hlen => ?_) | refine zAl (fun _ => ?_) | refine zAp (fun _ => ?_))
            refine x_pick [0, 1, 4] ?_
            repeat (first | refine gG ?_ | refine zN1 (fun hlen => ?_) | refine zN2 (fun hlen => ?_) | refine zAl (fun _ => ?_) | refine zAp (fun _ => ?_))
            refine zG ?_
            exact ⟨st3, .inr ⟨R, _, b2, rs, rfl, hrel, rfl, .inr rfl⟩⟩
          · refine ⟨.tup [.own 6 (.map (some b2)), .c (.lit (.bool true))], _, re_tup (res_cons re_own (res_cons re_refl res_nil)), rfl, rfl, ?_⟩
            clear ih'
            replace hfd : C.findSome? (fun m => solvedV l fs root k (P ++ [(n, m)])) = some R := hfd
            rw [hfd]
            repeat (first | refine gO ?_ | refine zN1 (fun hlen => ?_) | refine zN2 (fun hlen => ?_) | refine zAl (fun _ => ?_) | refine zAp (fun _ => ?_))
            refine x_pick [0, 1, 6] ?_
            repeat (first | refine gG ?_ | refine zN1 (fun hlen => ?_) | refine zN2 (fun hlen => ?_) | refine zAl (fun _ => ?_) | refine zAp (fun _ => ?_))
            refine zG ?_
            exact ⟨st3, .inr ⟨R, _, b2, rs, rfl, hrel, rfl, .inr rfl⟩⟩
        · obtain ⟨a, x, hps, rfl, rfl⟩ := mk_at iT he
          have hkl := (List.getElem?_eq_some_iff.1 hps).1
          obtain ⟨hw1, hw2⟩ := walk_snoc hi1 hi2 hkl hn
          have hil2 := walk_len hw1 hw2
          have hms := more_snoc (n := n) (v := mv) (is := is) hps
          have hup : mput a (iT x) (mapT iT (moreOf ps n mv is)) = mapT iT (moreOf ps n mv (is ++ [kk])) := by rw [hms, mput_T]
          clear ih' hfd hn hi1 hi2 hms hps
          repeat (first | refine gG ?_ | refine zN1 (fun hlen => ?_) | refine zN2 (fun hlen => ?_) | refine zAl (fun _ => ?_) | refine zAp (fun _ => ?_))
          refine zEn 0 he ?_
          repeat (first | refine gG ?_ | refine zN1 (fun hlen => ?_) | refine zN2 (fun hlen => ?_) | refine zAl (fun _ => ?_) | refine zAp (fun _ => ?_))
          refine zUpt 9 3 hup ?_
          repeat (first | refine gG ?_ | refine zN1 (fun hlen => ?_) | refine zN2 (fun hlen => ?_) | refine zAl (fun _ => ?_) | refine zAp (fun _ => ?_))
          exact ⟨is ++ [kk], ⟨hw1, hw2⟩, by rw [List.length_append] at *; simp only [List.length_cons, List.length_nil] at *; omega, x_wkd 6 trivial rfl (by repeat (first | exact ag_refl | refine ag_upd rfl ?_ | refine ag_at rfl rfl ?_))⟩
      · have hj' : j = C.length := by
          have : ¬ j < C.length := by simpa using h
          omega
        subst hj'
        rw [List.drop_length] at hf
        rw [← hf]
        clear h hf ih hcm
        repeat (first | refine gG ?_ | refine zN1 (fun hlen => ?_) | refine zN2 (fun hlen => ?_) | refine zAl (fun _ => ?_) | refine zAp (fun _ => ?_))
        refine zG ?_
        exact ⟨st2, .inl ⟨rfl, rfl, rfl⟩⟩
end Go.Proofs.Ytnkafjkcjpajgaa
namespace Go.Proofs.Ytnkafjkcjpajgaa
open Go.RowKit
theorem strs_snoc (X : List ByteArray) (n : ByteArray) : (X ++ [n]).length = X.length + 1 ∧ (X ++ [n]).flatMap strTs = X.flatMap strTs ++ [.lit (.string n)] := by
  constructor
  · simp
  · rw [List.flatMap_append]; rfl
end Go.Proofs.Ytnkafjkcjpajgaa
namespace Go.Proofs.Ytnkafjkcjpajgaa
open Go.RowKit
def nmOf (rs : List (ByteArray × Int)) (is : List Nat) : List ByteArray := is.map fun i => (rs[i]?.map (·.1)).getD ⟨#[]⟩
theorem nmOf_len (rs : List (ByteArray × Int)) (is : List Nat) : (nmOf rs is).length = is.length := List.length_map _
theorem nm_snoc {rs : List (ByteArray × Int)} {is : List Nat} {k : Nat} {a : ByteArray} {x : Int} (h : rs[k]? = some (a, x)) : nmOf rs (is ++ [k]) = nmOf rs is ++ [a] := by
  unfold nmOf
  rw [List.map_append, List.map_cons, List.map_nil, h]
  rfl
theorem nm_perm {rs : List (ByteArray × Int)} {is : List Nat} (h1 : is.Nodup) (h2 : ∀ p ∈ is, p < rs.length) (h3 : ∀ q, q < rs.length → q ∈ is) : (nmOf rs is).Perm (rs.map (·.1)) := by
  have hp : is.Perm (List.range rs.length) := (List.perm_ext_iff_of_nodup h1 List.nodup_range).2 fun q => by
    rw [List.mem_range]
    exact ⟨h2 q, h3 q⟩
  refine (hp.map _).trans (List.Perm.of_eq ?_)
  apply List.ext_getElem?
  intro i
  rw [List.getElem?_map, List.getElem?_map]
  by_cases hi : i < rs.length
  · rw [List.getElem?_range hi, List.getElem?_eq_getElem hi]
    simp [List.getElem?_eq_getElem hi]
  · rw [List.getElem?_eq_none (by simp; omega), List.getElem?_eq_none (by omega)]
    rfl
theorem look_i {rs : List (ByteArray × Int)} {R : PM} (h : RelP rs R) (n : ByteArray) : (mget n (mapT iT rs)).getD (.lit (.int .i64 0)) = .lit (.int .i64 (((gget n R).map Md.version).getD 0)) := by
  rw [mget_T, h.get]
  cases gget n R <;> rfl
set_option maxRecDepth 100000 in
set_option maxHeartbeats 8000000 in
theorem refBest_af (l : List Md) (root : List Us) (fs : List Pk) (hls : Md.sizes l ≤ 1048576) (hrs : Us.sizes root ≤ 1048576) : AF Try.prog 26 [Md.row l, Us.row root, Pk.row fs] (· = .tup [Pk.row (bestV l root fs).1, .lit (.int .i64 (bestV l root fs).2)]) := by
  have h1 := register_af l hls
  have h2 := usesFault_af root hrs
  have hl := @checkE_rg l
  have hr := fun h => wantsE_ok (l := root) h
  unfold bestV
  generalize checkE l = e1 at *
  generalize wantsE root = e2 at *
  cases d1 : decide (e1 = 0)
  · clear hl hr
    refine af_enter tok Try.func26 Try.ntmps26 Try.results26 rfl (by kernel_rfl) rfl rfl fun F hX => ?_
    repeat (first | refine gG ?_ | refine zN1 (fun hlen => ?_) | refine zN2 (fun hlen => ?_) | refine zAl (fun _ => ?_) | refine zAp (fun _ => ?_))
    refine zCall (h1) ?_
    rintro _ rfl
    repeat (first | refine gG ?_ | refine zN1 (fun hlen => ?_) | refine zN2 (fun hlen => ?_) | refine zAl (fun _ => ?_) | refine zAp (fun _ => ?_))
    first | refine zR (ts := [Pk.row [], .lit (.int .i64 e1)]) ?_ | refine zQ (ts := [Pk.row [], .lit (.int .i64 e1)]) ?_
    rfl
  cases d2 : decide (e2 = 0)
  · clear hl hr
    refine af_enter tok Try.func26 Try.ntmps26 Try.results26 rfl (by kernel_rfl) rfl rfl fun F hX => ?_
    repeat (first | refine gG ?_ | refine zN1 (fun hlen => ?_) | refine zN2 (fun hlen => ?_) | refine zAl (fun _ => ?_) | refine zAp (fun _ => ?_))
    refine zCall (h1) ?_
    rintro _ rfl
    repeat (first | refine gG ?_ | refine zN1 (fun hlen => ?_) | refine zN2 (fun hlen => ?_) | refine zAl (fun _ => ?_) | refine zAp (fun _ => ?_))
    refine zCall (h2) ?_
    rintro _ rfl
    repeat (first | refine gG ?_ | refine zN1 (fun hlen => ?_) | refine zN2 (fun hlen => ?_) | refine zAl (fun _ => ?_) | refine zAp (fun _ => ?_))
    first | refine zR (ts := [Pk.row [], .lit (.int .i64 e2)]) ?_ | refine zQ (ts := [Pk.row [], .lit (.int .i64 e2)]) ?_
    rfl
  replace hl := hl (of_decide_eq_true d1)
  obtain ⟨hr, hru⟩ := hr (of_decide_eq_true d2)
  rw [cond_true, cond_true]
  have hll := hl.len
  have hsv : solvedV l fs root (l.length + 1) [] = compl l fs root (l.length + 1) [] := by
    unfold solvedV
    have : satP (wantsP root []) [] = true := by
      unfold satP
      rw [List.all_eq_true]
      intro u _
      rfl
    rw [this]; rfl
  have hso := fun b bst => solved_ag l hl fs root hr hru (l.length + 1) [] [] b bst 0 (VP.nil l) ⟨List.nodup_nil, fun n => rfl⟩ (Nat.le_refl _)
  have hvp := fun R (h : compl l fs root (l.length + 1) [] = some R) => compl_vp (VP.nil l) h
  rw [hsv] at hso
  clear hl hru hr hsv
  generalize compl l fs root (l.length + 1) [] = o at *
  refine af_enter tok Try.func26 Try.ntmps26 Try.results26 rfl (by kernel_rfl) rfl rfl fun F hX => ?_
  repeat (first | refine gG ?_ | refine zN1 (fun hlen => ?_) | refine zN2 (fun hlen => ?_) | refine zAl (fun _ => ?_) | refine zAp (fun _ => ?_))
  refine zCall (h1) ?_
  rintro _ rfl
  repeat (first | refine gG ?_ | refine zN1 (fun hlen => ?_) | refine zN2 (fun hlen => ?_) | refine zAl (fun _ => ?_) | refine zAp (fun _ => ?_))
  refine zCall (h2) ?_
  rintro _ rfl
  clear h1 h2
  repeat (first | refine gG ?_ | refine zN1 (fun hlen => ?_) | refine zN2 (fun hlen => ?_) | refine zAl (fun _ => ?_) | refine zAp (fun _ => ?_))
  rename_i bst
  refine zMm (fun bm => ?_)
  repeat (first | refine gG ?_ | refine zN1 (fun hlen => ?_) | refine zN2 (fun hlen => ?_) | refine zAl (fun _ => ?_) | refine zAp (fun _ => ?_))
  refine zCallG [1, 0] (hso bm bst) ?_
  rintro r hs ⟨st3, ⟨rfl, rfl, rfl⟩ | ⟨R, i, b2, rs, rfl, hrel, rfl, ⟨rfl, rfl, rfl⟩ | rfl⟩⟩
  · refine ⟨.tup [.c (.lit (.map none)), .c (.lit (.bool false))], _, re_refl, rfl, rfl, ?_⟩
    clear hso hvp
    repeat (first | refine gG ?_ | refine zN1 (fun hlen => ?_) | refine zN2 (fun hlen => ?_) | refine zAl (fun _ => ?_) | refine zAp (fun _ => ?_))
    first | refine zR (ts := [Pk.row [], .lit (.int .i64 22)]) ?_ | refine zQ (ts := [Pk.row [], .lit (.int .i64 22)]) ?_
    rfl
  · refine ⟨.tup [.own 0 (.map (some b2)), .c (.lit (.bool true))], _, re_tup (res_cons re_own (res_cons re_refl res_nil)), rfl, rfl, ?_⟩
    have hR := hvp R rfl
    have hRl := hR.len
    have hrl := hrel.len hR.nodup
    clear hvp
    generalize hrs0 : ([] : List (ByteArray × Int)) = rs at *
    clear hso
    repeat (first | refine gO ?_ | refine zN1 (fun hlen => ?_) | refine zN2 (fun hlen => ?_) | refine zAl (fun _ => ?_) | refine zAp (fun _ => ?_))
    refine x_pick [1] ?_
    repeat (first | refine gG ?_ | refine zN1 (fun hlen => ?_) | refine zN2 (fun hlen => ?_) | refine zAl (fun _ => ?_) | refine zAp (fun _ => ?_))
    refine zRg 9 3 (fun b' stm c hsl => ?_)
    repeat (first | refine gG ?_ | refine zN1 (fun hlen => ?_) | refine zN2 (fun hlen => ?_) | refine zAl (fun _ => ?_) | refine zAp (fun _ => ?_))
    refine x_own 13 9 1 rfl rfl rfl rfl rfl ?_
    refine x_loop [13, 14, 40, 41, 42, 43, 44, 45, 46, 47] (fun y : List Nat × Value => [(13, .own 2 y.2)]) (fun y => [.mpx b2 (mkeys Value.string (mapT iT rs)) (some (stm, c)), .it b' b2 stm c y.1, .row y.2 9 1 (nmOf rs y.1).length ((nmOf rs y.1).flatMap strTs)])
      (fun y => y.1.Nodup ∧ ∀ p ∈ y.1, p < rs.length) (fun y => rs.length - y.1.length) ([], .slice none 0 0) ⟨List.nodup_nil, fun p hp => by cases hp⟩ ⟨rfl, trivial⟩ rfl ?_
    rintro ⟨is, v13⟩ ⟨hi1, hi2⟩
    dsimp only at hi1 hi2 ⊢
    have hil := walk_len hi1 hi2
    have hnl : (nmOf rs is).length ≤ 30 := by rw [nmOf_len]; omega
    repeat (first | refine gG ?_ | refine zN1 (fun hlen => ?_) | refine zN2 (fun hlen => ?_) | refine zAl (fun _ => ?_) | refine zAp (fun _ => ?_))
    refine zNx 0 (fun hd => ?_) (fun kk u t he hn => ?_)
    · have hall : ∀ q, q < rs.length → q ∈ is := fun q hq => hd q (by rw [mk_len]; exact hq)
      have hpm := nm_perm hi1 hi2 hall
      have hnp : (nmOf rs is).Perm (R.map (·.1)) := hpm.trans (hrel.perm hR.nodup)
      have hlk := fun n => look_i hrel n
      have hsrt := sorted_ag (nmOf rs is) (by omega)
      unfold outL
      rw [sortB_eq hnp] at hsrt
      have hsl2 : (sortB (R.map (·.1))).length ≤ 30 := by rw [sortB_len, ← hnp.length_eq]; exact hnl
      clear hd hall hpm hnp hi1 hi2 hil hrel hR
      generalize nmOf rs is = NM at *
      generalize sortB (R.map (·.1)) = ns at *
      generalize mapT iT rs = MR at *
      repeat (first | refine gO ?_ | refine zN1 (fun hlen => ?_) | refine zN2 (fun hlen => ?_) | refine zAl (fun _ => ?_) | refine zAp (fun _ => ?_))
      refine x_unit 0 ?_
      refine x_fz 13 rfl rfl rfl rfl ?_
      repeat (first | refine gG ?_ | refine zN1 (fun hlen => ?_) | refine zN2 (fun hlen => ?_) | refine zAl (fun _ => ?_) | refine zAp (fun _ => ?_))
      refine zCallG [] hsrt ?_
      rintro _ _ ⟨vs, rfl, rfl⟩
      refine ⟨.own 3 vs, _, re_own, rfl, rfl, ?_⟩
      clear hsrt
      repeat (first | refine gG ?_ | refine zN1 (fun hlen => ?_) | refine zN2 (fun hlen => ?_) | refine zAl (fun _ => ?_) | refine zAp (fun _ => ?_))
      refine x_fz 49 rfl rfl rfl rfl ?_
      refine x_own 15 46 2 rfl rfl rfl rfl rfl ?_
      refine x_loop [15, 17, 51, 52, 53, 54, 55, 56, 57, 58, 59, 60, 61, 62, 63] (fun y : Nat × Value => [(51, .c (.lit (.int .i64 (y.1 : Nat)))), (15, .own 4 y.2)]) (fun y => [.mp b2 (mkeys Value.string MR), .it b' b2 stm c is, .dead, .dead, .row y.2 46 2 (outOf R (ns.take y.1)).length ((outOf R (ns.take y.1)).flatMap Pk.ts)])
        (fun y => y.1 ≤ ns.length) (fun y => ns.length - y.1) (0, .slice none 0 0) (Nat.zero_le _) ⟨rfl, rfl, trivial⟩ rfl ?_
      rintro ⟨k, u⟩ hk
      dsimp only at hk ⊢
      repeat (first | refine gG ?_ | refine zN1 (fun hlen => ?_) | refine zN2 (fun hlen => ?_) | refine zAl (fun _ => ?_) | refine zAp (fun _ => ?_))
      refine x_cond rfl (fun h => ?_) (fun h => ?_)
      · have hk' : k < ns.length := by simpa using h
        obtain ⟨n, hn⟩ := nth hk'
        have g1 : (ns.flatMap strTs)[k * 1]? = some (.lit (.string n)) := by rw [Nat.mul_one]; exact str_at hn
        have hlk := hlk n
        have hsn := out_snoc (R := R) hn
        have hlt := out_len R (ns.take k)
        rw [List.length_take] at hlt
        clear h hn
        generalize outOf R (ns.take k) = X at *
        generalize hX : outOf R (ns.take (k + 1)) = X' at *
        generalize ((gget n R).map Md.version).getD 0 = v at *
        have hone := pks_snoc X ⟨n, v⟩
        rw [← hsn] at hone
        have hle : X.length ≤ 30 := by omega
        repeat (first | refine gG ?_ | refine zN1 (fun hlen => ?_) | refine zN2 (fun hlen => ?_) | refine zAl (fun _ => ?_) | refine zAp (fun _ => ?_))
        refine zIx k hk' ?_
        repeat (first | refine gG ?_ | refine zN1 (fun hlen => ?_) | refine zN2 (fun hlen => ?_) | refine zAl (fun _ => ?_) | refine zAp (fun _ => ?_))
        refine zEl1 g1 ?_
        repeat (first | refine gG ?_ | refine zN1 (fun hlen => ?_) | refine zN2 (fun hlen => ?_) | refine zAl (fun _ => ?_) | refine zAp (fun _ => ?_))
        refine zLks 9 3 hlk ?_
        repeat (first | refine gG ?_ | refine zN1 (fun hlen => ?_) | refine zN2 (fun hlen => ?_) | refine zAl (fun _ => ?_) | refine zAp (fun _ => ?_))
        exact ⟨(k + 1, _), hk', by simp only; omega, x_wkd 5 ⟨rfl, rfl, trivial⟩ (by dsimp only; rw [hX, hone.1, hone.2]; rfl) (by repeat (first | exact ag_refl | refine ag_upd rfl ?_ | refine ag_at rfl rfl ?_))⟩
      · have hk' : k = ns.length := by
          have : ¬ k < ns.length := by simpa using h
          omega
        subst hk'
        rw [List.take_length]
        clear h
        repeat (first | refine gG ?_ | refine zN1 (fun hlen => ?_) | refine zN2 (fun hlen => ?_) | refine zAl (fun _ => ?_) | refine zAp (fun _ => ?_))
        first | refine zR (ts := [Pk.row (outOf R ns), .lit (.int .i64 0)]) ?_ | refine zQ (ts := [Pk.row (outOf R ns), .lit (.int .i64 0)]) ?_
        rfl
    · obtain ⟨a, x, hps, rfl, rfl⟩ := mk_at iT he
      have hkl := (List.getElem?_eq_some_iff.1 hps).1
      obtain ⟨hw1, hw2⟩ := walk_snoc hi1 hi2 hkl hn
      have hil2 := walk_len hw1 hw2
      have hone := strs_snoc (nmOf rs is) a
      rw [← nm_snoc hps] at hone
      clear hrel hR hn hi1 hi2 hps
      repeat (first | refine gG ?_ | refine zN1 (fun hlen => ?_) | refine zN2 (fun hlen => ?_) | refine zAl (fun _ => ?_) | refine zAp (fun _ => ?_))
      refine zEn 0 he ?_
      repeat (first | refine gG ?_ | refine zN1 (fun hlen => ?_) | refine zN2 (fun hlen => ?_) | refine zAl (fun _ => ?_) | refine zAp (fun _ => ?_))
      exact ⟨(is ++ [kk], _), ⟨hw1, hw2⟩, by simp only [List.length_append, List.length_cons, List.length_nil] at *; omega, x_wkd 3 ⟨rfl, trivial⟩ (by dsimp only; rw [hone.1, hone.2]; rfl) (by repeat (first | exact ag_refl | refine ag_upd rfl ?_ | refine ag_at rfl rfl ?_))⟩
  · refine ⟨.tup [.own 0 (.map (some b2)), .c (.lit (.bool true))], _, re_tup (res_cons re_own (res_cons re_refl res_nil)), rfl, rfl, ?_⟩
    have hR := hvp R rfl
    have hRl := hR.len
    have hrl := hrel.len hR.nodup
    clear hvp
    clear hso
    repeat (first | refine gO ?_ | refine zN1 (fun hlen => ?_) | refine zN2 (fun hlen => ?_) | refine zAl (fun _ => ?_) | refine zAp (fun _ => ?_))
    refine x_pick [2] ?_
    repeat (first | refine gG ?_ | refine zN1 (fun hlen => ?_) | refine zN2 (fun hlen => ?_) | refine zAl (fun _ => ?_) | refine zAp (fun _ => ?_))
    refine zRg 9 3 (fun b' stm c hsl => ?_)
    repeat (first | refine gG ?_ | refine zN1 (fun hlen => ?_) | refine zN2 (fun hlen => ?_) | refine zAl (fun _ => ?_) | refine zAp (fun _ => ?_))
    refine x_own 13 9 1 rfl rfl rfl rfl rfl ?_
    refine x_loop [13, 14, 40, 41, 42, 43, 44, 45, 46, 47] (fun y : List Nat × Value => [(13, .own 2 y.2)]) (fun y => [.mpx b2 (mkeys Value.string (mapT iT rs)) (some (stm, c)), .it b' b2 stm c y.1, .row y.2 9 1 (nmOf rs y.1).length ((nmOf rs y.1).flatMap strTs)])
      (fun y => y.1.Nodup ∧ ∀ p ∈ y.1, p < rs.length) (fun y => rs.length - y.1.length) ([], .slice none 0 0) ⟨List.nodup_nil, fun p hp => by cases hp⟩ ⟨rfl, trivial⟩ rfl ?_
    rintro ⟨is, v13⟩ ⟨hi1, hi2⟩
    dsimp only at hi1 hi2 ⊢
    have hil := walk_len hi1 hi2
    have hnl : (nmOf rs is).length ≤ 30 := by rw [nmOf_len]; omega
    repeat (first | refine gG ?_ | refine zN1 (fun hlen => ?_) | refine zN2 (fun hlen => ?_) | refine zAl (fun _ => ?_) | refine zAp (fun _ => ?_))
    refine zNx 0 (fun hd => ?_) (fun kk u t he hn => ?_)
    · have hall : ∀ q, q < rs.length → q ∈ is := fun q hq => hd q (by rw [mk_len]; exact hq)
      have hpm := nm_perm hi1 hi2 hall
      have hnp : (nmOf rs is).Perm (R.map (·.1)) := hpm.trans (hrel.perm hR.nodup)
      have hlk := fun n => look_i hrel n
      have hsrt := sorted_ag (nmOf rs is) (by omega)
      unfold outL
      rw [sortB_eq hnp] at hsrt
      have hsl2 : (sortB (R.map (·.1))).length ≤ 30 := by rw [sortB_len, ← hnp.length_eq]; exact hnl
      clear hd hall hpm hnp hi1 hi2 hil hrel hR
      generalize nmOf rs is = NM at *
      generalize sortB (R.map (·.1)) = ns at *
      generalize mapT iT rs = MR at *
      repeat (first | refine gO ?_ | refine zN1 (fun hlen => ?_) | refine zN2 (fun hlen => ?_) | refine zAl (fun _ => ?_) | refine zAp (fun _ => ?_))
      refine x_unit 0 ?_
      refine x_fz 13 rfl rfl rfl rfl ?_
      repeat (first | refine gG ?_ | refine zN1 (fun hlen => ?_) | refine zN2 (fun hlen => ?_) | refine zAl (fun _ => ?_) | refine zAp (fun _ => ?_))
      refine zCallG [] hsrt ?_
      rintro _ _ ⟨vs, rfl, rfl⟩
      refine ⟨.own 3 vs, _, re_own, rfl, rfl, ?_⟩
      clear hsrt
      repeat (first | refine gG ?_ | refine zN1 (fun hlen => ?_) | refine zN2 (fun hlen => ?_) | refine zAl (fun _ => ?_) | refine zAp (fun _ => ?_))
      refine x_fz 49 rfl rfl rfl rfl ?_
      refine x_own 15 46 2 rfl rfl rfl rfl rfl ?_
      refine x_loop [15, 17, 51, 52, 53, 54, 55, 56, 57, 58, 59, 60, 61, 62, 63] (fun y : Nat × Value => [(51, .c (.lit (.int .i64 (y.1 : Nat)))), (15, .own 4 y.2)]) (fun y => [.mp b2 (mkeys Value.string MR), .it b' b2 stm c is, .dead, .dead, .row y.2 46 2 (outOf R (ns.take y.1)).length ((outOf R (ns.take y.1)).flatMap Pk.ts)])
        (fun y => y.1 ≤ ns.length) (fun y => ns.length - y.1) (0, .slice none 0 0) (Nat.zero_le _) ⟨rfl, rfl, trivial⟩ rfl ?_
      rintro ⟨k, u⟩ hk
      dsimp only at hk ⊢
      repeat (first | refine gG ?_ | refine zN1 (fun hlen => ?_) | refine zN2 (fun hlen => ?_) | refine zAl (fun _ => ?_) | refine zAp (fun _ => ?_))
      refine x_cond rfl (fun h => ?_) (fun h => ?_)
      · have hk' : k < ns.length := by simpa using h
        obtain ⟨n, hn⟩ := nth hk'
        have g1 : (ns.flatMap strTs)[k * 1]? = some (.lit (.string n)) := by rw [Nat.mul_one]; exact str_at hn
        have hlk := hlk n
        have hsn := out_snoc (R := R) hn
        have hlt := out_len R (ns.take k)
        rw [List.length_take] at hlt
        clear h hn
        generalize outOf R (ns.take k) = X at *
        generalize hX : outOf R (ns.take (k + 1)) = X' at *
        generalize ((gget n R).map Md.version).getD 0 = v at *
        have hone := pks_snoc X ⟨n, v⟩
        rw [← hsn] at hone
        have hle : X.length ≤ 30 := by omega
        repeat (first | refine gG ?_ | refine zN1 (fun hlen => ?_) | refine zN2 (fun hlen => ?_) | refine zAl (fun _ => ?_) | refine zAp (fun _ => ?_))
        refine zIx k hk' ?_
        repeat (first | refine gG ?_ | refine zN1 (fun hlen => ?_) | refine zN2 (fun hlen => ?_) | refine zAl (fun _ => ?_) | refine zAp (fun _ => ?_))
        refine zEl1 g1 ?_
        repeat (first | refine gG ?_ | refine zN1 (fun hlen => ?_) | refine zN2 (fun hlen => ?_) | refine zAl (fun _ => ?_) | refine zAp (fun _ => ?_))
        refine zLks 9 3 hlk ?_
        repeat (first | refine gG ?_ | refine zN1 (fun hlen => ?_) | refine zN2 (fun hlen => ?_) | refine zAl (fun _ => ?_) | refine zAp (fun _ => ?_))
        exact ⟨(k + 1, _), hk', by simp only; omega, x_wkd 5 ⟨rfl, rfl, trivial⟩ (by dsimp only; rw [hX, hone.1, hone.2]; rfl) (by repeat (first | exact ag_refl | refine ag_upd rfl ?_ | refine ag_at rfl rfl ?_))⟩
      · have hk' : k = ns.length := by
          have : ¬ k < ns.length := by simpa using h
          omega
        subst hk'
        rw [List.take_length]
        clear h
        repeat (first | refine gG ?_ | refine zN1 (fun hlen => ?_) | refine zN2 (fun hlen => ?_) | refine zAl (fun _ => ?_) | refine zAp (fun _ => ?_))
        first | refine zR (ts := [Pk.row (outOf R ns), .lit (.int .i64 0)]) ?_ | refine zQ (ts := [Pk.row (outOf R ns), .lit (.int .i64 0)]) ?_
        rfl
    · obtain ⟨a, x, hps, rfl, rfl⟩ := mk_at iT he
      have hkl := (List.getElem?_eq_some_iff.1 hps).1
      obtain ⟨hw1, hw2⟩ := walk_snoc hi1 hi2 hkl hn
      have hil2 := walk_len hw1 hw2
      have hone := strs_snoc (nmOf rs is) a
      rw [← nm_snoc hps] at hone
      clear hrel hR hn hi1 hi2 hps
      repeat (first | refine gG ?_ | refine zN1 (fun hlen => ?_) | refine zN2 (fun hlen => ?_) | refine zAl (fun _ => ?_) | refine zAp (fun _ => ?_))
      refine zEn 0 he ?_
      repeat (first | refine gG ?_ | refine zN1 (fun hlen => ?_) | refine zN2 (fun hlen => ?_) | refine zAl (fun _ => ?_) | refine zAp (fun _ => ?_))
      exact ⟨(is ++ [kk], _), ⟨hw1, hw2⟩, by simp only [List.length_append, List.length_cons, List.length_nil] at *; omega, x_wkd 3 ⟨rfl, trivial⟩ (by dsimp only; rw [hone.1, hone.2]; rfl) (by repeat (first | exact ag_refl | refine ag_upd rfl ?_ | refine ag_at rfl rfl ?_))⟩
end Go.Proofs.Ytnkafjkcjpajgaa
