/-
  Texts of this proof, part 12: Pej0.
-/
import Derived.Test.YtbfomgchjlkopaaDoorQPageLines11
import Derived.Laws.IdiomRangeMap
import Derived.MapKept
namespace Go.Proofs.YtbfomgchjlkopaaDoor
open Go.RowKit
theorem app_nilB (a : ByteArray) : a ++ ⟨#[]⟩ = a := by
  apply ByteArray.ext
  simp [ByteArray.data_append]
def argT (n : ByteArray) (l : List Y) (k : Nat) : ByteArray := if k = 0 then n else n ++ ⟨#[40]⟩ ++ joinS ((l.take k).map Y.text) ⟨#[44, 32]⟩
theorem argT_zero (n : ByteArray) (l : List Y) : argT n l 0 = n := rfl
theorem argT_one {n : ByteArray} {l : List Y} {y : Y} (h : l[0]? = some y) : argT n l (0 + 1) = argT n l 0 ++ (⟨#[40]⟩ ++ y.text) := by
  rw [argT_zero]
  unfold argT
  rw [if_neg (by omega), List.take_add_one, h]
  rw [show List.map Y.text (List.take 0 l ++ (some y).toList) = [y.text] by simp, joinS_one, ba_assoc]
theorem argT_succ {n : ByteArray} {l : List Y} {y : Y} {k : Nat} (h : l[k]? = some y) (hk : 0 < k) : argT n l (k + 1) = argT n l k ++ (⟨#[44, 32]⟩ ++ y.text) := by
  unfold argT
  rw [if_neg (by omega), if_neg (by omega), List.take_add_one, h]
  rw [show List.map Y.text (List.take k l ++ (some y).toList) = (l.take k).map Y.text ++ [y.text] by simp, joinS_snoc (by
    intro e
    have h2 := congrArg List.length e
    rw [List.length_map, List.length_take] at h2
    have h3 := (List.getElem?_eq_some_iff.1 h).1
    simp only [List.length_nil] at h2
    omega)]
  simp only [ba_assoc]
theorem argT_none {n : ByteArray} {l : List Y} (h : l.length = 0) : descS ⟨n, l⟩ = argT n l l.length := by
  unfold descS argT
  simp only [h, if_true]
theorem argT_some {n : ByteArray} {l : List Y} (h : ¬ l.length = 0) : descS ⟨n, l⟩ = argT n l l.length ++ ⟨#[41]⟩ := by
  unfold descS argT
  dsimp only
  rw [if_neg h, if_neg h, List.take_length]
theorem ysizes_take : ∀ (l : List Y) (k : Nat), Y.sizes (l.take k) ≤ Y.sizes l
  | [], k => by simp
  | y :: l, 0 => by rw [List.take_zero]; simp [Y.sizes]
  | y :: l, k + 1 => by
    have := ysizes_take l k
    rw [List.take_succ_cons]
    simp only [Y.sizes]
    omega
theorem argT_size (n : ByteArray) (l : List Y) (k : Nat) : (argT n l k).size ≤ n.size + 2 + 12 * Y.sizes l := by
  unfold argT
  split
  · omega
  · rw [ByteArray.size_append, ByteArray.size_append]
    have h1 := joinS_size ((l.take k).map Y.text)
    have h2 := Y.lens (l.take k)
    have h3 : (⟨#[40]⟩ : ByteArray).size = 1 := rfl
    have h4 := ysizes_take l k
    omega
def linT (pre : ByteArray) (l : List Mk) (k : Nat) : ByteArray := pre ++ joinS ((l.take k).map descS) ⟨#[32, 124, 32]⟩
theorem linT_zero (pre : ByteArray) (l : List Mk) : linT pre l 0 = pre := by
  unfold linT
  rw [List.take_zero, List.map_nil, joinS_nil, app_nilB]
theorem linT_one {pre : ByteArray} {l : List Mk} {m : Mk} {k : Nat} (h : l[k]? = some m) (hk : k = 0) : linT pre l (k + 1) = linT pre l k ++ descS m := by
  subst hk
  rw [linT_zero]
  unfold linT
  rw [List.take_add_one, h]
  rw [show List.map descS (List.take 0 l ++ (some m).toList) = [descS m] by simp, joinS_one]
theorem linT_succ {pre : ByteArray} {l : List Mk} {m : Mk} {k : Nat} (h : l[k]? = some m) (hk : ¬ k = 0) : linT pre l (k + 1) = linT pre l k ++ ⟨#[32, 124, 32]⟩ ++ descS m := by
  unfold linT
  rw [List.take_add_one, h]
  rw [show List.map descS (List.take k l ++ (some m).toList) = (l.take k).map descS ++ [descS m] by simp, joinS_snoc (by
    intro e
    have h2 := congrArg List.length e
    rw [List.length_map, List.length_take] at h2
    have h3 := (List.getElem?_eq_some_iff.1 h).1
    simp only [List.length_nil] at h2
    omega)]
  simp only [ba_assoc]
theorem linT_all (pre : ByteArray) (l : List Mk) : linT pre l l.length = pre ++ joinS (l.map descS) ⟨#[32, 124, 32]⟩ := by
  unfold linT
  rw [List.take_length]
theorem mksizes_take : ∀ (l : List Mk) (k : Nat), Mk.sizes (l.take k) ≤ Mk.sizes l
  | [], k => by simp
  | y :: l, 0 => by rw [List.take_zero]; simp [Mk.sizes]
  | y :: l, k + 1 => by
    have := mksizes_take l k
    rw [List.take_succ_cons]
    simp only [Mk.sizes, List.map_cons, List.sum_cons] at *
    omega
theorem linT_size (pre : ByteArray) (l : List Mk) (k : Nat) : (linT pre l k).size ≤ pre.size + 14 * Mk.sizes l + l.length := by
  unfold linT
  rw [ByteArray.size_append]
  have h1 := joinS_size3 ⟨#[32, 124, 32]⟩ (by decide) ((l.take k).map descS)
  have h2 := desc_lens (l.take k)
  have h3 := mksizes_take l k
  rw [List.length_map, List.length_take] at h1
  omega
/-- what is in order after so many entries -/
def outE (A : List En) (j : Nat) : List En := (stT enC (tagF (A.take j) 0)).map (·.1)
theorem outE_all (A : List En) : outE A A.length = stabL enC A := by
  unfold outE stabL
  rw [List.take_length]
theorem outE_len (A : List En) (j : Nat) : (outE A j).length ≤ A.length := by
  have h := (stabL_perm enC_ok (A.take j)).length_eq
  unfold stabL at h
  unfold outE
  rw [h, List.length_take]
  omega
theorem outE_ins {A : List En} {j : Nat} {e : En} (h : A[j]? = some e) {i : Nat} (hi : i ≤ (outE A j).length) (h1 : ∀ p, 0 < i → (outE A j)[i - 1]? = some p → ¬ enC e p < 0) (h2 : ∀ (m : Nat) (p : En), i ≤ m → (outE A j)[m]? = some p → enC e p < 0) : outE A (j + 1) = (outE A j).take i ++ e :: (outE A j).drop i := by
  have hs : stT enC (tagF (A.take (j + 1)) 0) = insT enC (stT enC (tagF (A.take j) 0)) (e, (A.take j).length) := by
    rw [List.take_add_one, h]
    exact stabL_snoc
  obtain ⟨_, hC⟩ := stT_ok enC_ok _ (tagF (A.take j) 0) rfl (tagF_pw _ 0)
  unfold outE at *
  rw [hs]
  generalize stT enC (tagF (A.take j) 0) = C at *
  rw [List.length_map] at hi
  have g := insT_at (x := (e, (A.take j).length)) enC_ok hC hi (fun hl h0 => h1 _ h0 (by rw [List.getElem?_map, List.getElem?_eq_getElem hl]; rfl)) (fun k hk hik => h2 k _ hik (by rw [List.getElem?_map, List.getElem?_eq_getElem hk]; rfl))
  rw [g, List.map_append, List.map_take, List.map_cons, List.map_drop]
/-- fields of an entry of a row -/
theorem en_nameAt {o : List En} {i : Nat} {p : En} (h : o[i]? = some p) : (o.flatMap En.ts)[i * 4]? = some (.lit (.string p.name)) := by
  have h1 := En.at h
  have h2 := congrArg (fun l : List T => l[0]?) h1
  simpa [List.getElem?_take, List.getElem?_drop, En.ts] using h2
theorem en_sortAt {o : List En} {i : Nat} {p : En} (h : o[i]? = some p) : (o.flatMap En.ts)[i * 4 + 1]? = some (.lit (.int .i64 p.sort)) := by
  have h1 := En.at h
  have h2 := congrArg (fun l : List T => l[1]?) h1
  simpa [List.getElem?_take, List.getElem?_drop, En.ts] using h2
end Go.Proofs.YtbfomgchjlkopaaDoor
