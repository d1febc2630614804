/-
  Texts of this proof, part 13: Kfp Kfq Kfr.
-/
import Derived.Test.YtdogdjcjmhogmaaQMoveRuns12
import Derived.Lib.MinMax
namespace Go.Proofs.Ytdogdjcjmhogmaa
open Go.RowKit
/-- a list in another order -/
theorem perm_sel {α : Type} (L L' : List α) (n : Nat) (σ : List Nat) (h : σ.Perm (List.range n)) (hn : L.length = n) (e : σ.filterMap (fun i => L[i]?) = L') : L.Perm L' := by
  subst e hn
  have h1 : (List.range L.length).filterMap (fun i => L[i]?) = L := by
    clear h
    induction L with
    | nil => rfl
    | cons a L ih =>
      rw [List.length_cons, List.range_succ_eq_map, List.filterMap_cons, List.filterMap_map]
      simp only [List.getElem?_cons_zero, Function.comp_def, List.getElem?_cons_succ]
      rw [ih]
  have := h.filterMap fun i => L[i]?
  rw [h1] at this
  exact this.symm
theorem rep_one (t : T) (n : Nat) : (List.replicate n [t]).flatten = List.replicate n t := by
  induction n with
  | zero => rfl
  | succ n ih => rw [List.replicate_succ, List.replicate_succ, List.flatten_cons, ih]; rfl
theorem rng_const {α : Type} (a : α) : ∀ n : Nat, (List.range n).map (fun _ => a) = List.replicate n a
  | 0 => rfl
  | n + 1 => by rw [List.range_succ, List.map_append, rng_const a n, List.replicate_succ']; rfl
theorem rng_set {α : Type} (f g : Nat → α) (n w : Nat) (v : α) (h1 : g w = v) (h2 : ∀ j, j ≠ w → g j = f j) : ((List.range n).map f).set w v = (List.range n).map g := by
  apply List.ext_getElem
  · simp
  · intro i ha hb
    simp only [List.length_set, List.length_map, List.length_range] at ha hb
    rw [List.getElem_set]
    by_cases e : w = i
    · subst e
      simp [h1]
    · rw [if_neg e]
      simp [h2 i (fun h => e h.symm)]
/-- the first w of n maps are there -/
def mpL (n w : Nat) (f : Nat → Nat) : List T := (List.range n).map fun j => .lit (.map (if j < w then some (f j) else none))
theorem mpL_0 (n : Nat) (f : Nat → Nat) : mpL n 0 f = List.replicate n (.lit (.map none)) := by
  rw [← rng_const]
  exact List.map_congr_left fun a _ => by simp
theorem mpL_len (n w : Nat) (f : Nat → Nat) : (mpL n w f).length = n := by simp [mpL]
theorem mpL_snoc (n w : Nat) (f : Nat → Nat) (m : Nat) : (mpL n w f).set (w * 1) (.lit (.map (some m))) = mpL n (w + 1) (updN f w m) := by
  rw [Nat.mul_one]
  refine rng_set _ _ _ _ _ ?_ fun j hj => ?_
  · simp [updN]
  · simp only [updN, if_neg hj]
    by_cases h : j < w
    · rw [if_pos h, if_pos (by omega)]
    · rw [if_neg h, if_neg (by omega)]
theorem mpL_all (n : Nat) (f : Nat → Nat) : mpL n n f = (List.range n).map fun j => .lit (.map (some (f j))) := List.map_congr_left fun a ha => by
  rw [if_pos (List.mem_range.1 ha)]
/-- maps with nothing in them -/
def emL (w : Nat) (f : Nat → Nat) : List Blk := (List.range w).map fun j => .mp (f j) []
theorem emL_snoc (w : Nat) (f : Nat → Nat) (m : Nat) : emL (w + 1) (updN f w m) = emL w f ++ [.mp m []] := by
  unfold emL
  rw [List.range_succ, List.map_append]
  congr 1
  · exact List.map_congr_left fun a ha => by
      have : a ≠ w := by have := List.mem_range.1 ha; omega
      simp only [updN, if_neg this]
  · simp [updN]
/-- rows of what is sure -/
def kR (sv : Nat → Value) (c : Nat → List (Int × Int)) (j : Nat) : Blk := .row (sv j) 143 2 (c j).length ((c j).flatMap goTs)
def cF (l : List Int) (i k : Nat) : Nat → List (Int × Int) := fun j => if j < i then l.map (·, 0) else if j = i then (l.take k).map (·, 0) else []
theorem cF_00 (l : List Int) : cF l 0 0 = fun _ => [] := by
  funext j
  unfold cF
  rw [if_neg (by omega)]
  split <;> simp
theorem cF_next (l : List Int) (i : Nat) : cF l i l.length = cF l (i + 1) 0 := by
  funext j
  unfold cF
  by_cases h : j < i
  · rw [if_pos h, if_pos (by omega)]
  · rw [if_neg h]
    by_cases h2 : j = i
    · rw [if_pos h2, if_pos (by omega), List.take_length]
    · rw [if_neg h2, if_neg (by omega)]
      split <;> simp
theorem cF_snoc (l : List Int) (i k : Nat) {a : Int} (h : l[k]? = some a) : cF l i (k + 1) = updN (cF l i k) i ((l.take k).map (·, 0) ++ [(a, 0)]) := by
  funext j
  unfold cF updN
  by_cases h1 : j = i
  · subst h1
    rw [if_neg (by omega), if_pos rfl, if_pos rfl]
    obtain ⟨h2, rfl⟩ := List.getElem?_eq_some_iff.1 h
    rw [List.take_succ_eq_append_getElem h2, List.map_append]
    rfl
  · simp only [if_neg h1]
theorem cF_at (l : List Int) (i k : Nat) : cF l i k i = (l.take k).map (·, 0) := by
  unfold cF
  rw [if_neg (by omega), if_pos rfl]
theorem kR_out (sv : Nat → Value) (c : Nat → List (Int × Int)) {n i : Nat} (v : Value) (q : List (Int × Int)) (h : i < n) : ((List.range n).map (kR (updN sv i v) (updN c i q))).Perm (.row v 143 2 q.length (q.flatMap goTs) :: ((List.range n).eraseIdx i).map (kR sv c)) := by
  have h1 := fam_out (f := kR (updN sv i v) (updN c i q)) (rng_get h)
  have e1 : ((List.range n).eraseIdx i).map (kR (updN sv i v) (updN c i q)) = ((List.range n).eraseIdx i).map (kR sv c) := List.map_congr_left fun a ha => by
    have : a ≠ i := fun e => erase_not List.nodup_range (rng_get h) (e ▸ ha)
    simp only [kR, updN, if_neg this]
  have e2 : kR (updN sv i v) (updN c i q) i = .row v 143 2 q.length (q.flatMap goTs) := by simp only [kR, updN_at]
  rwa [e1, e2] at h1
theorem svL_set (sv : Nat → Value) (n i : Nat) (v : Value) : ((List.range n).map fun j => T.lit (sv j)).set (i * 1) (.lit v) = (List.range n).map fun j => T.lit (updN sv i v j) := by
  rw [Nat.mul_one]
  refine rng_set _ _ _ _ _ ?_ fun j hj => ?_
  · simp [updN]
  · simp only [updN, if_neg hj]
theorem bel_all (l : List Int) (i : Nat) : belL l.length (bel0 l) i = l.map (·, 0) := by
  unfold belL bel0
  apply List.ext_getElem
  · simp
  · intro j h1 h2
    simp only [List.length_map, List.length_range] at h1 h2
    simp [List.getD, h2]
theorem kR_end (l : List Int) (x : Gx) (h : x.nA = l.length) : (List.range (x.nd + 1)).map (kR x.sv (cF l (x.nd + 1) 0)) = (List.range (x.nd + 1)).map (suR x (bel0 l)) := List.map_congr_left fun a ha => by
  have := List.mem_range.1 ha
  unfold suR kR cF
  rw [if_pos (by omega), h, bel_all, List.length_map]
/-- the blocks at the beginning -/
@[reducible] def sH (ba bg bn be bs bw by_ b6 my ms nd : Nat) (va vg vn ve vs vw : Value) (l : List Int) (NX EX SU : List T) : List Blk :=
  [.box ba 22 [.own 8 va], .box bg 64 [.own 9 vg], .box bn 135 [.own 10 vn], .box be 136 [.own 11 ve],
   .box bs 137 [.own 12 vs], .box bw 139 [.own 13 vw], .box by_ 140 [.own 14 (.map (some my))], reB b6,
   .row va 3 1 l.length (l.flatMap intTs), .row vg 71 1 l.length (litL (nilV (α := Int × Int) l.length)), .row vn 115 1 l.length NX, .row ve 138 1 l.length EX,
   .row vs 141 1 (nd + 1) SU, .row vw 146 1 (nd + 1) (litL (nilV (α := El) (nd + 1))), .mp my [], .mp ms []]
def rs0 (nd : Nat) (l : List Int) : Rs := ⟨l, bel0 l, fun _ => [], fun _ => [], [], nilV (nd + 1), nilV l.length⟩
theorem rs0_rel (x : Gx) (l : List Int) : Rel x (rs0 x.nd l) (startZ x.nd l) := by
  refine ⟨rfl, rfl, rfl, ?_, ?_, fun _ _ => rfl, fun _ _ => rfl, fun _ e he => by cases he⟩
  · simp [rs0, nilV, startZ]
  · simp [rs0, nilV, startZ]
/-- where things lie at the beginning -/
@[reducible] def gx0 (ba bg bn be bs bw by_ bp my nd : Nat) (va vg vn ve vs vw : Value) (l : List Int) (sv : Nat → Value) (mn me : Nat → Nat) : Gx := ⟨ba, bg, bn, be, bs, bw, by_, bp, my, nd, l.length, va, vg, vn, ve, vs, vw, sv, mn, me⟩
theorem perm_st1 (ba bg bn be bs bw by_ bp b6 my ms nd : Nat) (va vg vn ve vs vw : Value) (l : List Int) (sv : Nat → Value) (mn me : Nat → Nat) (R : List Blk) :
    (.box bp 147 [.fn (.func 53) [.ptr 6 by_ 0]] :: (sH ba bg bn be bs bw by_ b6 my ms nd va vg vn ve vs vw l (mpL l.length l.length mn) (mpL l.length l.length me) ((List.range (nd + 1)).map fun j => T.lit (sv j)) ++ R)).Perm
    (rH (gx0 ba bg bn be bs bw by_ bp my nd va vg vn ve vs vw l sv mn me) (rs0 nd l) ++ ([reB b6, .mp ms []] ++ R)) := by
  refine List.Perm.append_right R (perm_sel (.box bp 147 [.fn (.func 53) [.ptr 6 by_ 0]] :: sH ba bg bn be bs bw by_ b6 my ms nd va vg vn ve vs vw l (mpL l.length l.length mn) (mpL l.length l.length me) ((List.range (nd + 1)).map fun j => T.lit (sv j))) (rH (gx0 ba bg bn be bs bw by_ bp my nd va vg vn ve vs vw l sv mn me) (rs0 nd l) ++ [reB b6, .mp ms []]) 17 [1, 2, 3, 4, 5, 6, 7, 0, 9, 10, 11, 12, 13, 14, 15, 8, 16] (by decide) rfl ?_)
  rw [mpL_all, mpL_all]
  simp only [rH, rs0, nilV, List.length_replicate]
  rfl
theorem rest_st (ba bg bn be bs bw by_ bp my nd : Nat) (va vg vn ve vs vw : Value) (l : List Int) (sv : Nat → Value) (mn me : Nat → Nat) :
    ((nilV (nd + 1)).map thR ++ ((nilV l.length).map goR ++ (emL l.length mn ++ emL l.length me))) ++ (List.range (nd + 1)).map (kR sv (cF l (nd + 1) 0)) = rT (gx0 ba bg bn be bs bw by_ bp my nd va vg vn ve vs vw l sv mn me) (rs0 nd l) := by
  have := kR_end l (gx0 ba bg bn be bs bw by_ bp my nd va vg vn ve vs vw l sv mn me) rfl
  dsimp only [gx0] at this
  rw [this, List.append_assoc, List.append_assoc, List.append_assoc]
  rfl
theorem perm_st2 {H R : List Blk} {a b c : Blk} : (a :: (H ++ ([b, c] ++ R))).Perm (H ++ ([a, c, b] ++ R)) := by
  simpa using perm_parts [[a], H, [b], [c], R] [1, 0, 3, 2, 4] (show List.Perm _ (List.range 5) by decide)
/-- the blocks of a round: what the closures hold, letter, the numbers sent, the result -/
@[reducible] def rD (x : Gx) (bl mq b6 : Nat) (S : List ((Int × Int) × Int)) (w : Rs) : List Blk := rH x w ++ ([lbB x bl, .mp mq (mkeys pI (mapT iL S)), reB b6] ++ rT x w)

end Go.Proofs.Ytdogdjcjmhogmaa
namespace Go.Proofs.Ytdogdjcjmhogmaa
open Go.RowKit
theorem recvZ_seqs (x : El) (Z : Zt) (s : List ((Int × Int) × Int)) : recvZ x { Z with seqs := s } = { recvZ x Z with seqs := s } := by
  unfold recvZ
  split <;> rfl
theorem procZ_seqs (i : Int) (x : El) (Z : Zt) (s : List ((Int × Int) × Int)) : procZ i x { Z with seqs := s } = { procZ i x Z with seqs := s } := by
  unfold procZ
  dsimp only
  split
  · exact recvZ_seqs x Z s
  · split <;> rfl
theorem recvZ_sq (x : El) (Z : Zt) : (recvZ x Z).seqs = Z.seqs := by
  unfold recvZ
  split <;> rfl
theorem procZ_sq (i : Int) (x : El) (Z : Zt) : (procZ i x Z).seqs = Z.seqs := by
  unfold procZ
  split
  · exact recvZ_sq x Z
  · split <;> rfl
theorem foldZ_sq (i : Int) : ∀ (l : List El) (Z : Zt), (l.foldl (fun Z y => procZ i y Z) Z).seqs = Z.seqs
  | [], _ => rfl
  | y :: l, Z => by rw [List.foldl_cons, foldZ_sq i l, procZ_sq]
theorem comeZ_sq (i : Int) (x : El) (Z : Zt) : (comeZ i x Z).seqs = Z.seqs := by
  unfold comeZ
  split
  · exact procZ_sq i x Z
  · dsimp only
    split
    · rw [foldZ_sq]
      dsimp only
      split <;> split <;> rfl
    · split <;> split <;> rfl
theorem Rel.seqs {x : Gx} {w : Rs} {Z : Zt} (h : Rel x w Z) (s : List ((Int × Int) × Int)) : Rel x w { Z with seqs := s } := ⟨h.at_, h.bel, h.ways, h.wait, h.got, h.nxt, h.ear, h.src⟩
theorem spl_go : ∀ (l : List (Int × Int)) (j : Nat) (p : Int × Int), spl (l.flatMap goTs) (j * 2) (goTs p) = (l.set j p).flatMap goTs
  | [], 0, p => rfl
  | [], j + 1, p => by rw [Nat.add_mul]; rfl
  | a :: l, 0, p => rfl
  | a :: l, j + 1, p => by
    rw [List.set_cons_succ, List.flatMap_cons, List.flatMap_cons, ← spl_go l j p, Nat.add_mul]
    rfl
theorem go_turn {l : List (Int × Int)} {j : Nat} {y : Int × Int} (h : l[j]? = some y) : (l.flatMap goTs)[j * 2 + 1]? = some (iL y.2) := by
  have h1 := go_at h
  have h2 : (((l.flatMap goTs).drop (j * 2)).take 2)[1]? = some (iL y.2) := by rw [h1]; rfl
  rw [List.getElem?_take_of_lt (by omega), List.getElem?_drop] at h2
  exact h2
theorem gos_len (l : List (Int × Int)) : (l.flatMap goTs).length = l.length * 2 := by
  induction l with
  | nil => rfl
  | cons a l ih => rw [List.flatMap_cons, List.length_append, ih, List.length_cons]; simp [goTs]; omega
theorem belL_len (n : Nat) (f : Int → Int → Int × Int) (i : Nat) : (belL n f i).length = n := by simp [belL]
theorem belL_at {n : Nat} (f : Int → Int → Int × Int) (i : Nat) {j : Nat} (h : j < n) : (belL n f i)[j]? = some (f (i : Int) (j : Int)) := by
  unfold belL
  rw [rng_at (fun w' : Nat => f (i : Int) (w' : Int)) h]
theorem belL_set (n : Nat) (f : Int → Int → Int × Int) (i j : Nat) (p : Int × Int) : (belL n f i).set j p = belL n (upd2 f (i : Int) (j : Int) p) i := by
  refine rng_set _ _ _ _ _ upd2_at fun k hk => ?_
  unfold upd2
  rw [if_neg (fun h => hk (by omega))]
theorem su_out {x : Gx} {f : Int → Int → Int × Int} {i j : Nat} (p : Int × Int) (h : i < x.nd + 1) : ((List.range (x.nd + 1)).map (suR x (upd2 f (i : Int) (j : Int) p))).Perm (.row (x.sv i) 143 2 x.nA (((belL x.nA f i).set j p).flatMap goTs) :: ((List.range (x.nd + 1)).eraseIdx i).map (suR x f)) := by
  have h1 := fam_out (f := suR x (upd2 f (i : Int) (j : Int) p)) (rng_get h)
  have e1 : ((List.range (x.nd + 1)).eraseIdx i).map (suR x (upd2 f (i : Int) (j : Int) p)) = ((List.range (x.nd + 1)).eraseIdx i).map (suR x f) := List.map_congr_left fun a ha => by
    have hne : a ≠ i := fun e => erase_not List.nodup_range (rng_get h) (e ▸ ha)
    have : belL x.nA (upd2 f (i : Int) (j : Int) p) a = belL x.nA f a := List.map_congr_left fun k _ => by
      unfold upd2
      rw [if_neg (fun h => hne (by omega))]
    simp only [suR, this]
  rw [e1] at h1
  rw [belL_set]
  exact h1
section
variable (x : Gx) (bl mq b6 : Nat) (S : List ((Int × Int) × Int)) (w : Rs)
/-- the blocks that only a round knows -/
@[reducible] def exB : List Blk := [lbB x bl, .mp mq (mkeys pI (mapT iL S)), reB b6]
theorem rD_rB : (rD x bl mq b6 S w).Perm (rB x w ++ exB x bl mq b6 S) := by
  simpa using perm_parts [rH x w, exB x bl mq b6 S, rT x w] [0, 2, 1] (show List.Perm _ (List.range 3) by decide)
theorem rD_rA : (rD x bl mq b6 S w).Perm (rA x bl w ++ [.mp mq (mkeys pI (mapT iL S)), reB b6]) := by
  simpa using perm_parts [rH x w, [lbB x bl], [.mp mq (mkeys pI (mapT iL S)), reB b6], rT x w] [0, 1, 3, 2] (show List.Perm _ (List.range 4) by decide)
theorem rD_su {c : Blk} {C' : List Blk} (hC : ((List.range (x.nd + 1)).map (suR x w.bel)).Perm (c :: C')) : (rD x bl mq b6 S w).Perm (rH x w ++ (exB x bl mq b6 S ++ (c :: (w.ways.map rwayR ++ (w.wait.map thR ++ (w.got.map goR ++ ((List.range x.nA).map (nxR x w.nxt) ++ ((List.range x.nA).map (eaR x w.ear) ++ C')))))))) := by
  refine (List.Perm.append_left (rH x w) (List.Perm.append_left (exB x bl mq b6 S) (List.Perm.append_left (w.ways.map rwayR) (List.Perm.append_left (w.wait.map thR) (List.Perm.append_left (w.got.map goR) (List.Perm.append_left ((List.range x.nA).map (nxR x w.nxt)) (List.Perm.append_left ((List.range x.nA).map (eaR x w.ear)) hC))))))).trans ?_
  simpa using perm_parts [rH x w, exB x bl mq b6 S, w.ways.map rwayR, w.wait.map thR, w.got.map goR, (List.range x.nA).map (nxR x w.nxt), (List.range x.nA).map (eaR x w.ear), [c], C'] [0, 1, 7, 2, 3, 4, 5, 6, 8] (show List.Perm _ (List.range 9) by decide)
end
section
variable {P : Program} {F : Frm} {L : Tab} {d : Option Tmp} {ty : TypeId} {pos : String} {aft : Array Edge} {g : Option (Nat × Bool)} {ρ : Operand → AV} {hp : List Blk} {K : AV → List Blk → Prop}
/-- two cells into an own row, where the other blocks are not written out -/
theorem zSe2 {t : TypeId} {ti : TI} {x y : Operand} {i off n sz : Nat} {v : Value} {e' : TypeId} {cs : List T} (p q : Int) (hb : off + 2 ≤ cs.length) (h : K (.c (.lit undef)) (hp.set i (.row v e' sz n (spl cs off (goTs (p, q)))))) (hL : TabOk P L := by exact tok) (hx : ρ x = .eptr i v off := by exact rfl) (hi : hp[i]? = some (.row v e' sz n cs) := by exact rfl) (hy : cellsA (ρ y) = [.c (iL p), .c (iL q)] := by exact rfl) (ht : L.look t = some ti := by exact rfl) (hs : ti.size = 2 := by exact rfl) : LO P F ⟨d, .store t x y, ty, pos, aft, g⟩ ρ hp K :=
  lo_store_e hL hx hi (u := ρ y) rfl ht (us := goTs (p, q)) (by rw [hy]; rfl) (by rw [hy, hs]; rfl) (by rw [hy]; exact rzs_cons rz_c (rzs_cons rz_c rzs_nil)) (by rw [hs]; exact hb) h
end
/-- what holds after so many deeds -/
theorem all_ok {nA nd : Nat} {ds : List Dd} {Z0 : Zt} (h0 : SOk nA nd 0 Z0) (hd : ds.length ≤ 400) : ∀ k, k ≤ ds.length → SOk nA nd k ((ds.take k).foldl (fun Z d => doZ nd d Z) Z0)
  | 0, _ => h0
  | k + 1, hk => by
    have ih := all_ok h0 hd k (by omega)
    obtain ⟨d, hdk⟩ := nth (show k < ds.length by omega)
    rw [fold_snocD hdk]
    exact step_ok (by omega) ih d
end Go.Proofs.Ytdogdjcjmhogmaa
namespace Go.Proofs.Ytdogdjcjmhogmaa
open Go.RowKit
/-- a state where an actor may have come, and something may have been learnt -/
def Zc (m j : Nat) (y1 tu : Bool) (p : Int × Int) (Z : Zt) : Zt := { Z with at_ := cond y1 (Z.at_.set j (m : Int)) Z.at_, bel := cond tu (upd2 Z.bel (m : Int) (j : Int) p) Z.bel }
def Rc (m j : Nat) (y1 tu : Bool) (p : Int × Int) (w : Rs) : Rs := ⟨cond y1 (w.at_.set j (m : Int)) w.at_, cond tu (upd2 w.bel (m : Int) (j : Int) p) w.bel, w.nxt, w.ear, w.ways, w.wait, w.got⟩
theorem Rc_rel {x : Gx} {w : Rs} {Z : Zt} (m j : Nat) (y1 tu : Bool) (p : Int × Int) (h : Rel x w Z) : Rel x (Rc m j y1 tu p w) (Zc m j y1 tu p Z) := by
  refine ⟨?_, ?_, h.ways, h.wait, h.got, h.nxt, h.ear, h.src⟩
  · cases y1 <;> simp only [Rc, Zc, cond, h.at_]
  · cases tu <;> simp only [Rc, Zc, cond, h.bel]
theorem comeZ_eq (m j : Nat) (yk ys yq yn yo yt : Int) (Z : Zt) : comeZ m ⟨yk, j, ys, yq, yn, yo, yt⟩ Z = if yk = 0 then procZ m ⟨yk, j, ys, yq, yn, yo, yt⟩ Z else
    if (decide (yk = 1) || decide ((Z.bel m j).2 < yt)) = true then
      (Z.wait.getD m []).foldl (fun Z y => procZ m y Z) { Zc m j (decide (yk = 1)) (decide ((Z.bel m j).2 < yt)) (yo, yt) Z with wait := Z.wait.set m [] }
    else Zc m j (decide (yk = 1)) (decide ((Z.bel m j).2 < yt)) (yo, yt) Z := by
  unfold comeZ
  dsimp only
  have hT : turned m ⟨yk, j, ys, yq, yn, yo, yt⟩ Z = decide ((Z.bel m j).2 < yt) := rfl
  rw [hT]
  by_cases e1 : yk = 0
  · rw [if_pos e1, if_pos e1]
  · rw [if_neg e1, if_neg e1]
    by_cases e2 : yk = 1 <;> cases e3 : decide ((Z.bel m j).2 < yt) <;> simp only [e2, if_true, if_false, Bool.false_eq_true, or_true, true_or, or_false, or_self, decide_true, decide_false, Bool.or_true, Bool.or_false, Bool.or_self, Bool.true_or] <;> first | rfl | (simp [Zc])
theorem Zc_ok {nA nd t cw cy cs cg : Nat} {Z : Zt} (m j : Nat) (y1 tu : Bool) (p : Int × Int) (h : ZOk nA nd t cw cy cs cg Z) (hi : isN nd m) (hp : isN nd p.1) (ht : 0 ≤ p.2 ∧ p.2 ≤ t) : ZOk nA nd t cw cy cs cg (Zc m j y1 tu p Z) := by
  refine ⟨?_, ?_, h.glen, h.wlen, ?_, h.seqs, h.ways, h.wait, h.waitn, h.waysn, h.sto, h.got, h.nxt⟩
  · cases y1
    · exact h.alen
    · show (Z.at_.set j (m : Int)).length = nA
      rw [List.length_set]
      exact h.alen
  · cases y1
    · exact h.at_
    · intro a ha
      rcases mem_set_or (show a ∈ Z.at_.set j (m : Int) from ha) with ha | rfl
      · exact h.at_ a ha
      · unfold isN at hi; omega
  · cases tu
    · exact h.bel
    · intro i w hi' hw
      show isN nd (upd2 Z.bel (m : Int) (j : Int) p i w).1 ∧ 0 ≤ (upd2 Z.bel (m : Int) (j : Int) p i w).2 ∧ (upd2 Z.bel (m : Int) (j : Int) p i w).2 ≤ t
      unfold upd2
      split
      · exact ⟨hp, ht.1, ht.2⟩
      · exact h.bel i w hi' hw
theorem way_ok {nA nd t cw cy cs cg : Nat} {Z : Zt} {k : Int × Int} {e : El} {l : List El} (h : ZOk nA nd t cw cy cs cg Z) (hk : wayG k Z.ways = e :: l) : isN nd k.1 ∧ isN nd k.2 ∧ ElOk nA nd t e ∧ ZOk nA nd t cw cy cs cg { Z with ways := gput k l Z.ways } := by
  obtain ⟨l0, hl0, hel0⟩ := wayG_in (k := k) (show e ∈ wayG k Z.ways by rw [hk]; exact List.mem_cons_self)
  obtain ⟨hds, hdd, hall⟩ := h.ways _ hl0
  refine ⟨hds, hdd, hall e hel0, h.alen, h.at_, h.glen, h.wlen, h.bel, h.seqs, fun p hp => ?_, h.wait, h.waitn, ?_, h.sto, h.got, h.nxt⟩
  · rcases gput_all hp with rfl | hp
    · refine ⟨hds, hdd, fun z hz => ?_⟩
      obtain ⟨l1, hl1, hz1⟩ := wayG_in (k := k) (show z ∈ wayG k Z.ways by rw [hk]; exact List.mem_cons_of_mem _ hz)
      exact (h.ways _ hl1).2.2 z hz1
    · exact h.ways p hp
  · have hsum := sumW_put k l Z.ways
    have hlen : (wayG k Z.ways).length = l.length + 1 := by rw [hk]; rfl
    have hy := h.waysn
    dsimp only
    omega
theorem at_storeR (x : Gx) (bl mq b6 : Nat) (S : List ((Int × Int) × Int)) (w : Rs) (j : Nat) (a : Int) : (rD x bl mq b6 S w).set 8 (.row x.va 3 1 w.at_.length ((w.at_.flatMap intTs).set (j * 1) (iL a))) = rD x bl mq b6 S ⟨w.at_.set j a, w.bel, w.nxt, w.ear, w.ways, w.wait, w.got⟩ := by
  simp only [rD, rH, ints_set, List.length_set]
  rfl
theorem then_n {next : AS → Prop} {Q : Exit → AS → Prop} {σ : AS} (h : next σ) : thenA next Q .normal σ := h
theorem th_drop (e : El) (l : List El) : ((e :: l).flatMap thTs).drop (1 * 7) = l.flatMap thTs := by
  rw [List.flatMap_cons]; rfl
theorem perm_sw {H E W R : List Blk} {c : Blk} : (H ++ (E ++ (c :: (W ++ R)))).Perm ((H ++ W) ++ (E ++ (c :: R))) := by
  simpa using perm_parts [H, E, [c], W, R] [0, 3, 1, 2, 4] (show List.Perm _ (List.range 5) by decide)
theorem none_ok {nA nd : Nat} {Z : Zt} {dk dsr dd dw dn : Int} {W : Bool} (eW : decide (isW nA dw) = W) (hl : Z.at_.length = nA) (h1 : (decide (dk = 1) && (decide (isN nd dsr) && W)) = false)
    (h2 : (decide (dk = 2) && (W && (decide (isN nd dd) && (decide (Z.at_.getD dw.toNat 0 > 0) && !decide (Z.at_.getD dw.toNat 0 = dd))))) = false) (h3 : dk ≠ 3 ∨ wayG (dsr, dd) Z.ways = []) (h4 : ∀ a ∈ Z.at_, 0 ≤ a) : doZ nd ⟨dk, dsr, dd, dw, dn⟩ Z = Z := by
  unfold doZ
  dsimp only
  rw [hl]
  subst eW
  by_cases k1 : dk = 1
  · rw [if_pos k1, if_neg]
    rintro ⟨a, b⟩
    simp [k1, a, b] at h1
  rw [if_neg k1]
  by_cases k2 : dk = 2
  · rw [if_pos k2, if_neg]
    rintro ⟨a, b, c, d⟩
    have hg : 0 ≤ Z.at_.getD dw.toNat 0 := h4 _ (getD_mem (by rw [hl]; exact (isW_lt b).1))
    have hg' : Z.at_.getD dw.toNat 0 > 0 := by omega
    rw [decide_eq_true k2, decide_eq_true b, decide_eq_true a, decide_eq_true hg', decide_eq_false d] at h2
    cases h2
  rw [if_neg k2]
  by_cases k3 : dk = 3
  · rw [if_pos k3]
    rcases h3 with h3 | h3
    · exact absurd k3 h3
    · rw [h3]
  rw [if_neg k3]
def sumE (f : Nat → List ((Int × Int) × Int)) (k : Nat) : Nat := ((List.range k).map fun j => (f j).length).sum
theorem sumE_succ (f : Nat → List ((Int × Int) × Int)) (k : Nat) : sumE f (k + 1) = sumE f k + (f k).length := by
  unfold sumE
  rw [List.range_succ, List.map_append, List.sum_append]
  simp
theorem ear_len {x : Gx} {w : Rs} {Z : Zt} (h : Rel x w Z) (j : Nat) : (w.ear j).length = ((List.range x.nd).map fun i => (Z.sto ((i + 1 : Nat) : Int) (j : Int)).length).sum := by
  rw [filt_sum (h.src j)]
  congr 1
  exact List.map_congr_left fun i _ => by rw [h.ear]
theorem ear_sum {x : Gx} {w : Rs} {Z : Zt} (h : Rel x w Z) : ∀ n : Nat, sumE w.ear n = sumS n x.nd Z.sto
  | 0 => by simp [sumE, sumS, keysE]
  | n + 1 => by
    rw [sumE_succ, ear_sum h n, ear_len h]
    unfold sumS
    rw [keysE_succ, List.map_append, List.sum_append]
    congr 1
    unfold rowK
    rw [List.map_map]
    rfl
theorem rng_le {f : Nat → Nat} {c : Nat} (h : ∀ j, f j ≤ c) : ∀ n : Nat, ((List.range n).map f).sum ≤ n * c
  | 0 => by simp
  | n + 1 => by
    rw [List.range_succ, List.map_append, List.sum_append, Nat.add_mul]
    have := rng_le h n
    have := h n
    simp
    omega
@[reducible] def obR (b : Nat) (x : Gx) (p q : Nat) : Blk := .box b 66 [.own 9 x.vg, .own 8 x.va, .c (iL p), .c (iL q)]
/-- the head, while something walks over the ways -/
@[reducible] def rI (x : Gx) (w : Rs) (s : Option (List Nat × Nat)) : List Blk :=
  [.box x.ba 22 [.own 8 x.va], .box x.bg 64 [.own 9 x.vg], .box x.bn 135 [.own 10 x.vn], .box x.be 136 [.own 11 x.ve],
   .box x.bs 137 [.own 12 x.vs], .box x.bw 139 [.own 13 x.vw], .box x.by_ 140 [.own 14 (.map (some x.my))], .box x.bp 147 [.fn (.func 53) [.ptr 6 x.by_ 0]],
   .row x.va 3 1 w.at_.length (w.at_.flatMap intTs), .row x.vg 71 1 w.got.length (litL w.got), .row x.vn 115 1 x.nA ((List.range x.nA).map fun j => .lit (.map (some (x.mn j)))), .row x.ve 138 1 x.nA ((List.range x.nA).map fun j => .lit (.map (some (x.me j)))),
   .row x.vs 141 1 (x.nd + 1) ((List.range (x.nd + 1)).map fun i => .lit (x.sv i)), .row x.vw 146 1 w.wait.length (litL w.wait), .mpx x.my (mkeys pI (mapT litV w.ways)) s]
theorem perm_end (x : Gx) (bl mq b6 bo p q : Nat) (S : List ((Int × Int) × Int)) (w : Rs) : (rH x w ++ [obR bo x p q] ++ (exB x bl mq b6 S ++ rT x w)).Perm
    ((.row x.vg 71 1 w.got.length (litL w.got) :: (w.got.map goR ++ [.row x.va 3 1 w.at_.length (w.at_.flatMap intTs), obR bo x p q, reB b6])) ++
      ((rH x w).take 8 ++ ([lbB x bl, .mp mq (mkeys pI (mapT iL S))] ++ ((rH x w).drop 10 ++ (w.ways.map rwayR ++ (w.wait.map thR ++ ((List.range x.nA).map (nxR x w.nxt) ++ ((List.range x.nA).map (eaR x w.ear) ++ (List.range (x.nd + 1)).map (suR x w.bel))))))))) := by
  have := perm_parts [(rH x w).take 8, [.row x.va 3 1 w.at_.length (w.at_.flatMap intTs)], [.row x.vg 71 1 w.got.length (litL w.got)], (rH x w).drop 10, [obR bo x p q], [lbB x bl, .mp mq (mkeys pI (mapT iL S))], [reB b6], w.ways.map rwayR, w.wait.map thR, w.got.map goR, (List.range x.nA).map (nxR x w.nxt) ++ ((List.range x.nA).map (eaR x w.ear) ++ (List.range (x.nd + 1)).map (suR x w.bel))] [2, 9, 1, 4, 6, 0, 5, 3, 7, 8, 10] (show List.Perm _ (List.range 11) by decide)
  refine ((List.Perm.of_eq ?_).trans this).trans (List.Perm.of_eq ?_)
  · simp [rT]
  · simp
end Go.Proofs.Ytdogdjcjmhogmaa
