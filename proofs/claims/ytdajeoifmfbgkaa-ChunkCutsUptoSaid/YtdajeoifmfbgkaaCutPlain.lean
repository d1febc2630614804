/-
  Plain functions on lists of bytes for the statement ChunkCuts: what Cut, Cuts, Pack, Packed, Scan and Scanned compute. No program is named.
-/
namespace Go.Proofs.Ytdajeoifmfbgkaa

/-- how long the first piece is, of at most f bytes -/
def cl : Nat → List UInt8 → Nat
  | 0, _ => 0
  | _, [] => 0
  | f + 1, c :: r => if c = 10 then 1 else cl f r + 1
theorem cl_le : ∀ f l, cl f l ≤ f ∧ cl f l ≤ l.length
  | 0, _ => by simp [cl]
  | _ + 1, [] => by simp [cl]
  | f + 1, c :: r => by
    have := cl_le f r
    simp only [cl, List.length_cons]
    split <;> omega
theorem cl_pos {f : Nat} {l : List UInt8} (hf : 0 < f) (hl : 0 < l.length) : 0 < cl f l := by
  match f, l, hf, hl with
  | f + 1, c :: r, _, _ => simp only [cl]; split <;> omega
theorem cl_hit : ∀ {f k : Nat} {l : List UInt8} (h : k < l.length), k < f → cl f l = k + cl (f - k) (l.drop k) → l[k] = 10 → cl f l = k + 1 := by
  intro f k l h hf he h10
  rw [he, List.drop_eq_getElem_cons h]
  obtain ⟨g, hg⟩ : ∃ g, f - k = g + 1 := ⟨f - k - 1, by omega⟩
  rw [hg]
  simp [cl, h10]
theorem cl_miss : ∀ {f k : Nat} {l : List UInt8} (h : k < l.length), k < f → cl f l = k + cl (f - k) (l.drop k) → l[k] ≠ 10 → cl f l = (k + 1) + cl (f - (k + 1)) (l.drop (k + 1)) := by
  intro f k l h hf he h10
  rw [he, List.drop_eq_getElem_cons h]
  obtain ⟨g, hg⟩ : ∃ g, f - k = g + 1 := ⟨f - k - 1, by omega⟩
  have hg' : f - (k + 1) = g := by omega
  rw [hg, hg']
  simp [cl, h10]; omega
theorem cl_end {f k : Nat} {l : List UInt8} (h : ¬ (k < l.length ∧ k < f)) (he : cl f l = k + cl (f - k) (l.drop k)) : cl f l = k := by
  rw [he]
  by_cases hk : k < f
  · have : l.drop k = [] := List.drop_eq_nil_of_le (by omega)
    rw [this]
    obtain ⟨g, hg⟩ : ∃ g, f - k = g + 1 := ⟨f - k - 1, by omega⟩
    rw [hg]; simp [cl]
  · have : f - k = 0 := by omega
    rw [this]; simp [cl]

/-- the pieces -/
def cutsF : Nat → List UInt8 → List (List UInt8)
  | 0, _ => []
  | f + 1, l => if l = [] then [] else l.take (cl 32 l) :: cutsF f (l.drop (cl 32 l))
theorem cutsF_nil : ∀ f, cutsF f [] = []
  | 0 => rfl
  | _ + 1 => by simp [cutsF]
theorem cutsF_step {f : Nat} {l : List UInt8} (h : 0 < l.length) (hf : l.length ≤ f) : cutsF f l = l.take (cl 32 l) :: cutsF (f - 1) (l.drop (cl 32 l)) := by
  obtain ⟨g, rfl⟩ : ∃ g, f = g + 1 := ⟨f - 1, by omega⟩
  have : l ≠ [] := by intro e; simp [e] at h
  simp [cutsF, this]

theorem cl_clean : ∀ {f : Nat} {cur rest : List UInt8}, (∀ x ∈ cur, x ≠ 10) → cur.length ≤ f → cl f (cur ++ rest) = cur.length + cl (f - cur.length) rest
  | f, [], rest, _, _ => by simp
  | 0, _ :: _, _, _, h => by simp at h
  | f + 1, x :: cur, rest, hx, h => by
    have h1 : x ≠ 10 := hx x (by simp)
    have h2 := cl_clean (f := f) (cur := cur) (rest := rest) (fun y hy => hx y (by simp [hy])) (by simpa using h)
    simp only [List.cons_append, cl, h1, if_false, List.length_cons, Nat.add_sub_add_right, h2]
    omega
theorem cl_full {cur rest : List UInt8} {c : UInt8} (h : ∀ x ∈ cur, x ≠ 10) (hl : cur.length ≤ 31) (hc : c = 10 ∨ cur.length = 31) : cl 32 (cur ++ c :: rest) = cur.length + 1 := by
  rw [cl_clean h (by omega)]
  obtain ⟨g, hg⟩ : ∃ g, 32 - cur.length = g + 1 := ⟨31 - cur.length, by omega⟩
  rw [hg]
  simp only [cl]
  rcases hc with rfl | h31
  · simp
  · obtain rfl : g = 0 := by omega
    simp [cl]
theorem cutsF_full {f : Nat} {cur rest : List UInt8} {c : UInt8} (h : ∀ x ∈ cur, x ≠ 10) (hl : cur.length ≤ 31) (hc : c = 10 ∨ cur.length = 31) (hf : (cur ++ c :: rest).length ≤ f) :
    cutsF f (cur ++ c :: rest) = (cur ++ [c]) :: cutsF (f - 1) rest := by
  rw [cutsF_step (by simp; omega) hf, cl_full h hl hc]
  congr 1
  · rw [show cur ++ c :: rest = (cur ++ [c]) ++ rest by simp, show cur.length + 1 = (cur ++ [c]).length by simp, List.take_left]
  · congr 1
    rw [show cur ++ c :: rest = (cur ++ [c]) ++ rest by simp, show cur.length + 1 = (cur ++ [c]).length by simp, List.drop_left]
theorem cutsF_last {f : Nat} {cur : List UInt8} (h : ∀ x ∈ cur, x ≠ 10) (hl : cur.length ≤ 31) (h0 : cur ≠ []) (hf : cur.length ≤ f) : cutsF f cur = [cur] := by
  have hpos : 0 < cur.length := List.length_pos_iff.2 h0
  have hcl : cl 32 cur = cur.length := by
    have := cl_clean (f := 32) (cur := cur) (rest := []) h (by omega)
    rw [List.append_nil] at this
    rw [this]
    obtain ⟨g, hg⟩ : ∃ g, 32 - cur.length = g + 1 := ⟨31 - cur.length, by omega⟩
    rw [hg]; simp [cl]
  rw [cutsF_step hpos hf, hcl]
  simp [cutsF_nil]

def pack1 (b : List UInt8) : List UInt8 := UInt8.ofNat (b.length / 256) :: UInt8.ofNat b.length :: b
def packTo (l : List (List UInt8)) : List UInt8 := l.flatMap pack1
theorem packTo_snoc (l : List (List UInt8)) (k : Nat) (h : k < l.length) : packTo (l.take (k + 1)) = packTo (l.take k) ++ pack1 l[k] := by
  unfold packTo
  rw [List.take_succ_eq_append_getElem h, List.flatMap_append]
  simp only [List.flatMap_cons, List.flatMap_nil, List.append_nil]
theorem packTo_take_le (l : List (List UInt8)) (k : Nat) : (packTo (l.take k)).length ≤ (packTo l).length := by
  have : packTo l = packTo (l.take k) ++ packTo (l.drop k) := by
    unfold packTo
    rw [← List.flatMap_append, List.take_append_drop]
  rw [this, List.length_append]
  omega
/-- the bytes and the error of packing -/
def packR (l : List (List UInt8)) : List UInt8 × Int := if l.all (fun b => decide (b.length ≤ 65535)) then (packTo l, 0) else ([], 2)
theorem packR_bad {l : List (List UInt8)} {k : Nat} (h : k < l.length) (hb : 65535 < (l[k]).length) : packR l = ([], 2) := by
  unfold packR
  rw [if_neg]
  simp only [List.all_eq_true, decide_eq_true_eq, Classical.not_forall]
  exact ⟨l[k], List.getElem_mem h, by omega⟩
theorem packR_ok {l : List (List UInt8)} (h : ∀ k (hk : k < l.length), (l[k]).length ≤ 65535) : packR l = (packTo l, 0) := by
  unfold packR
  rw [if_pos]
  simp only [List.all_eq_true, decide_eq_true_eq]
  intro x hx
  obtain ⟨k, hk, rfl⟩ := List.getElem_of_mem hx
  exact h k hk

/-- the pieces of packed bytes, and how many bytes they take -/
def scanF : Nat → List UInt8 → List (List UInt8) × Nat
  | f + 1, x :: y :: r =>
    if r.length < 256 * x.toNat + y.toNat then ([], 0)
    else ((r.take (256 * x.toNat + y.toNat)) :: (scanF f (r.drop (256 * x.toNat + y.toNat))).1, 2 + (256 * x.toNat + y.toNat) + (scanF f (r.drop (256 * x.toNat + y.toNat))).2)
  | _, _ => ([], 0)
theorem scanF_short {f : Nat} {l : List UInt8} (h : l.length < 2) : scanF f l = ([], 0) := by
  unfold scanF
  split
  · simp only [List.length_cons] at h; omega
  · rfl
theorem scanF_few {f : Nat} {l : List UInt8} {p : Nat} (h : p + 1 < l.length) (hb : l.length - p - 2 < 256 * (l[p]).toNat + (l[p + 1]).toNat) : scanF f (l.drop p) = ([], 0) := by
  rw [List.drop_eq_getElem_cons (by omega : p < l.length), List.drop_eq_getElem_cons h]
  cases f with
  | zero => rfl
  | succ f =>
    simp only [scanF, List.length_drop]
    rw [if_pos (by omega)]
theorem scanF_more {f : Nat} {l : List UInt8} {p n : Nat} (h : p + 1 < l.length) (hn : n = 256 * (l[p]).toNat + (l[p + 1]).toNat) (hb : ¬ l.length - p - 2 < n) (hf : (l.drop p).length ≤ f) :
    scanF f (l.drop p) = (((l.drop (p + 2)).take n) :: (scanF (f - 1) (l.drop (p + (2 + n)))).1, 2 + n + (scanF (f - 1) (l.drop (p + (2 + n)))).2) := by
  rw [List.length_drop] at hf
  obtain ⟨g, rfl⟩ : ∃ g, f = g + 1 := ⟨f - 1, by omega⟩
  rw [List.drop_eq_getElem_cons (by omega : p < l.length), List.drop_eq_getElem_cons h]
  simp only [scanF, List.length_drop]
  rw [if_neg (by omega), ← hn, List.drop_drop]
  simp only [Nat.add_sub_cancel, show p + 1 + 1 + n = p + (2 + n) by omega, show p + 1 + 1 = p + 2 by omega]

theorem cutsF_len : ∀ f l, (cutsF f l).length ≤ f
  | 0, _ => by simp [cutsF]
  | f + 1, l => by
    simp only [cutsF]
    split
    · simp
    · have := cutsF_len f (l.drop (cl 32 l))
      simp only [List.length_cons]; omega
theorem scanF_len : ∀ f l, (scanF f l).1.length ≤ f
  | 0, _ => by simp [scanF]
  | _ + 1, [] => by simp [scanF]
  | _ + 1, [_] => by simp [scanF]
  | f + 1, x :: y :: r => by
    simp only [scanF]
    split
    · simp
    · have := scanF_len f (r.drop (256 * x.toNat + y.toNat))
      simp only [List.length_cons]; omega

end Go.Proofs.Ytdajeoifmfbgkaa
