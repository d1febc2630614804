/-
  Plain: names of modules, wants and registers.
-/
namespace Go.Proofs.Ytdajeoifmfbgkaa

/-- may the byte x stand at place i of a name? -/
def okN (i x : Nat) : Bool := decide (97 ≤ x ∧ x ≤ 122) || (decide (i ≠ 0) && (decide (x = 95) || decide (48 ≤ x ∧ x ≤ 57)))
def okTo (s : List UInt8) (k : Nat) : Prop := ∀ j (h : j < s.length), j < k → okN j (s[j]).toNat = true
/-- is it a name? -/
noncomputable def nameOk (s : List UInt8) : Bool := @decide (s ≠ [] ∧ s.length ≤ 16 ∧ okTo s s.length) (Classical.propDecidable _)
theorem nameOk_bad {s : List UInt8} {k : Nat} (h : k < s.length) (hb : okN k (s[k]).toNat = false) : nameOk s = false := by
  simp only [nameOk, decide_eq_false_iff_not]
  rintro ⟨_, _, h3⟩
  have := h3 k h h
  rw [hb] at this
  cases this
theorem nameOk_long {s : List UInt8} (h : 16 < s.length) : nameOk s = false := by
  simp only [nameOk, decide_eq_false_iff_not]
  omega
theorem nameOk_nil : nameOk [] = false := by simp [nameOk]
theorem nameOk_yes {s : List UInt8} (h0 : s ≠ []) (h1 : s.length ≤ 16) (h : okTo s s.length) : nameOk s = true := by
  simp only [nameOk, decide_eq_true_eq]
  exact ⟨h0, h1, h⟩
theorem okTo_succ {s : List UInt8} {k : Nat} (h : okTo s k) (hk : k < s.length) (hx : okN k (s[k]).toNat = true) : okTo s (k + 1) := by
  intro j hj hjk
  rcases Nat.lt_succ_iff_lt_or_eq.1 hjk with h' | h'
  · exact h j hj h'
  · subst h'; exact hx
theorem okTo_zero (s : List UInt8) : okTo s 0 := fun _ _ h => absurd h (by omega)
theorem okN_true {i x : Nat} (h : okN i x = true) : (97 ≤ x ∧ x ≤ 122) ∨ (x = 95 ∧ 0 < i) ∨ (48 ≤ x ∧ x ≤ 57 ∧ 0 < i) := by
  simp only [okN, Bool.or_eq_true, Bool.and_eq_true, decide_eq_true_eq] at h
  omega
theorem okN_false {i x : Nat} (h : okN i x = false) : (i = 0 ∧ x < 97) ∨ (i = 0 ∧ 122 < x) ∨ (0 < i ∧ x < 48) ∨ (0 < i ∧ 57 < x ∧ x < 95) ∨ (0 < i ∧ 95 < x ∧ x < 97) ∨ (0 < i ∧ 122 < x) := by
  simp only [okN, Bool.or_eq_false_iff, Bool.and_eq_false_iff, decide_eq_false_iff_not] at h
  omega

end Go.Proofs.Ytdajeoifmfbgkaa
