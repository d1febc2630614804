/-
  Plain: which registers may be. The order of names; the walks of cmp.Compare at strings.
-/
import Derived.Test.YtdajeoifmfbgkaaUse
import Derived.Test.YtdajeoifmfbgkaaProg
namespace Go.Proofs.Ytdajeoifmfbgkaa
open Go.RowKit

theorem less_tri : ∀ x y : List UInt8, (Op.bytesLess x y = true ∧ (x == y) = false ∧ Op.bytesLess y x = false) ∨ (Op.bytesLess x y = false ∧ x = y ∧ Op.bytesLess y x = false) ∨ (Op.bytesLess x y = false ∧ (x == y) = false ∧ Op.bytesLess y x = true)
  | [], [] => by simp [Op.bytesLess]
  | [], b :: y => by simp [Op.bytesLess]
  | a :: x, [] => by simp [Op.bytesLess]
  | a :: x, b :: y => by
    have ih := less_tri x y
    by_cases hab : a = b
    · subst hab
      simpa [Op.bytesLess] using ih
    · have hba : ¬ b = a := fun h => hab h.symm
      by_cases hlt : a < b
      · have hlt' : ¬ b < a := by rw [UInt8.lt_iff_toNat_lt] at *; omega
        simp [Op.bytesLess, hab, hba, hlt, hlt']
      · have hlt' : b < a := by
          rw [UInt8.lt_iff_toNat_lt] at *
          have : a.toNat ≠ b.toNat := fun h => hab (UInt8.toNat_inj.1 h)
          omega
        simp [Op.bytesLess, hab, hlt, hlt']

theorem beq_sw (x y : List UInt8) : (y == x) = (x == y) := by
  rw [Bool.eq_iff_iff]
  constructor <;> intro h <;> rw [beq_iff_eq] at * <;> exact h.symm

noncomputable def modE (m : ModD) : Int := if nameOk m.name then (if m.version < 1 ∨ 9999 < m.version then 1 else wantsE m.uses) else 11
def ordBad (p m : ModD) : Bool := Op.bytesLess m.name p.name || (m.name == p.name && decide (m.version ≤ p.version))
noncomputable def errAt (l : List ModD) (k : Nat) : Int :=
  match l[k]? with
  | some m => if modE m ≠ 0 then modE m else (match k, l[k - 1]? with | _ + 1, some p => if ordBad p m then 21 else 0 | _, _ => 0)
  | none => 0
noncomputable def regE (l : List ModD) : Int := if 30 < l.length then 2 else firstE ((List.range l.length).map (errAt l))
theorem errAt_mod {l : List ModD} {k : Nat} {m : ModD} (h : l[k]? = some m) (he : modE m ≠ 0) : errAt l k = modE m := by simp [errAt, h, he]
theorem errAt_zero {l : List ModD} {m : ModD} (h : l[0]? = some m) (he : modE m = 0) : errAt l 0 = 0 := by simp [errAt, h, he]
theorem errAt_ord {l : List ModD} {k : Nat} {m p : ModD} (h : l[k]? = some m) (he : modE m = 0) (hk : 0 < k) (hp : l[k - 1]? = some p) : errAt l k = if ordBad p m then 21 else 0 := by
  obtain ⟨j, rfl⟩ : ∃ j, k = j + 1 := ⟨k - 1, by omega⟩
  simp only [Nat.add_sub_cancel] at hp
  simp [errAt, h, he, hp]
theorem modE_ver {m : ModD} (h : modE m = 0) : 1 ≤ m.version ∧ m.version ≤ 9999 := by
  unfold modE at h
  split at h
  · split at h
    · simp at h
    · omega
  · simp at h

/-- what Compare tells -/
def cmpE (a b : List UInt8) : Int := if Op.bytesLess a b then -1 else if (!(Op.bytesLess a b || a == b)) then 1 else 0

set_option maxRecDepth 100000 in
set_option maxHeartbeats 400000 in
theorem cmp_walk (a b : List UInt8) (w : World) :
    Calls Try.prog 105 #[.string ⟨a.toArray⟩, .string ⟨b.toArray⟩] w fun e w' => e = .returned (.int .i64 (cmpE a b)) ∧ w' = w := by
  have HE : Hid (cmpE a b = if Op.bytesLess a b then -1 else if (!(Op.bytesLess a b || a == b)) then 1 else 0) := rfl
  cases h1 : Op.bytesLess a b with
  | true =>
    have HE' : Hid (cmpE a b = -1) := by unfold Hid; rw [HE.out, h1]; rfl
    go_enter Try.func105, Try.ntmps105
    go_wp2
    go_ret
    exact ⟨by rw [HE'.out]; rfl, rfl⟩
  | false =>
    cases h2 : (a == b) with
    | true =>
      have HE' : Hid (cmpE a b = 0) := by unfold Hid; rw [HE.out, h1, h2]; rfl
      go_enter Try.func105, Try.ntmps105
      go_wp2
      go_ret
      exact ⟨by rw [HE'.out]; rfl, rfl⟩
    | false =>
      have HE' : Hid (cmpE a b = 1) := by unfold Hid; rw [HE.out, h1, h2]; rfl
      go_enter Try.func105, Try.ntmps105
      go_wp2
      go_ret
      exact ⟨by rw [HE'.out]; rfl, rfl⟩

def orE (a b : Int) : Int := if a = 0 then b else a
theorem ordBad_or (p m : ModD) : ordBad p m = decide (orE (cmpE m.name p.name) (m.version - p.version) ≤ 0) := by
  unfold ordBad orE cmpE
  rcases less_tri m.name p.name with ⟨h1, h2, h3⟩ | ⟨h1, h2, h3⟩ | ⟨h1, h2, h3⟩
  · simp [h1]
  · rw [h1, h2, Bool.eq_iff_iff]
    simp
    omega
  · simp [h1, h2]

set_option maxRecDepth 100000 in
set_option maxHeartbeats 400000 in
theorem or_walk (a b : Int) (A : Option Addr) (c B : Nat) (w : World) (hr : Rd w B 1 A 2 [.int .i64 a, .int .i64 b]) :
    Calls Try.prog 104 #[.slice A 2 c] w fun e w' => e = .returned (.int .i64 (orE a b)) ∧ w = w' := by
  obtain ⟨ad, rfl, -, q0⟩ := hr.get (k := 0) (by omega)
  obtain ⟨ad', e', -, q1⟩ := hr.get (k := 1) (by omega)
  obtain rfl : ad = ad' := by injection e'
  simp only [List.getElem_cons_zero, List.getElem_cons_succ, add_zero'] at q0 q1
  rw [add_succ' ad 0, Nat.zero_add] at q1
  clear hr e'
  by_cases ha : a = 0
  · have HE' : Hid (orE a b = b) := by unfold Hid orE; rw [if_pos ha]
    subst ha
    by_cases hb : b = 0
    · subst hb
      go_enter Try.func104, Try.ntmps104
      go_wp2_with fail
      refine wp_loop_rounds 3 ?_
      rw [rounds_succ]
      go_wp2_with fail
      rw [rounds_succ]
      go_wp2_with fail
      rw [rounds_succ]
      go_wp2_with fail
      go_ret
      exact ⟨by rw [HE'.out]; rfl, rfl⟩
    · have hbb : (b != 0) = true := by simp [hb]
      clear hb
      go_enter Try.func104, Try.ntmps104
      go_wp2_with fail
      refine wp_loop_rounds 3 ?_
      rw [rounds_succ]
      go_wp2_with fail
      rw [rounds_succ]
      go_wp2_with fail
      go_ret
      exact ⟨by rw [HE'.out]; rfl, rfl⟩
  · have HE' : Hid (orE a b = a) := by unfold Hid orE; rw [if_neg ha]
    have hab : (a != 0) = true := by simp [ha]
    clear ha
    go_enter Try.func104, Try.ntmps104
    go_wp2_with fail
    refine wp_loop_rounds 3 ?_
    rw [rounds_succ]
    go_wp2_with fail
    go_ret
    exact ⟨by rw [HE'.out]; rfl, rfl⟩

end Go.Proofs.Ytdajeoifmfbgkaa
