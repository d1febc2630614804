/-
  Texts of this proof, part 11: Tnl Tnm.
-/
import Derived.Test.YtllgibfmddihgaaDoorQTreeTells10
import Derived.Lib.AppendStr
namespace Go.Proofs.YtllgibfmddihgaaDoor
open Go.RowKit
/-- the names that mean something in the i-th part -/
def inner (k : Int) (t : ByteArray) (ns : List ByteArray) (i : Nat) : List ByteArray := bif decide (k = 10) then ns else bif decide (k = 6) && decide ((i : Int) = 1) then [t] else []
def gather (B : List ByteArray) : List ByteArray → List (List ByteArray × List ByteArray) → List ByteArray
  | out, [] => out
  | out, p :: r => gather B (addS (B ++ p.1) out p.2) r
theorem gather_app (B : List ByteArray) : ∀ (ps qs : List (List ByteArray × List ByteArray)) (out : List ByteArray), gather B out (ps ++ qs) = gather B (gather B out ps) qs
  | [], _, _ => rfl
  | p :: ps, qs, out => by rw [List.cons_append, gather, gather, gather_app B ps qs]
theorem gather_two (B : List ByteArray) : ∀ (ps : List (List ByteArray × List ByteArray)) (acc out : List ByteArray), addS B out (gather [] acc ps) = gather B (addS B out acc) ps
  | [], _, _ => rfl
  | p :: ps, acc, out => by rw [gather, gather_two B ps, addS_two, gather, List.nil_append]
theorem gather_snoc (B : List ByteArray) {ps : List (List ByteArray × List ByteArray)} {k : Nat} {p : List ByteArray × List ByteArray} (h : ps[k]? = some p) (out : List ByteArray) : gather B out (ps.take (k + 1)) = addS (B ++ p.1) (gather B out (ps.take k)) p.2 := by
  rw [List.take_add_one, h, gather_app]
  rfl
theorem addS_len (N : List ByteArray) : ∀ (L out : List ByteArray), (addS N out L).length ≤ out.length + L.length
  | [], out => by simp [addS]
  | s :: L, out => by
    rw [addS]
    have := addS_len N L (bif hasS N s || hasS out s then out else out ++ [s])
    have h2 : (bif hasS N s || hasS out s then out else out ++ [s]).length ≤ out.length + 1 := by
      cases hasS N s || hasS out s <;> simp
    rw [List.length_cons]
    omega
theorem gather_len (B : List ByteArray) : ∀ (ps : List (List ByteArray × List ByteArray)) (out : List ByteArray), (gather B out ps).length ≤ out.length + (ps.map fun p => p.2.length).sum
  | [], out => by simp [gather]
  | p :: ps, out => by
    rw [gather]
    have := gather_len B ps (addS (B ++ p.1) out p.2)
    have h2 := addS_len (B ++ p.1) p.2 out
    rw [List.map_cons, List.sum_cons]
    omega
def scopes (k : Int) (t : ByteArray) (ns : List ByteArray) : Nat → List (List ByteArray) → List (List ByteArray × List ByteArray)
  | _, [] => []
  | i, L :: r => (inner k t ns i, L) :: scopes k t ns (i + 1) r
theorem scopes_snd (k : Int) (t : ByteArray) (ns : List ByteArray) : ∀ (l : List (List ByteArray)) (i : Nat), (scopes k t ns i l).map (fun p => p.2.length) = l.map List.length
  | [], _ => rfl
  | x :: l, i => by rw [scopes, List.map_cons, scopes_snd k t ns l, List.map_cons]
def partsOf (k n : Int) (t : ByteArray) (ns : List ByteArray) (l : List (List ByteArray)) (rs : List (List ByteArray × List ByteArray)) : List (List ByteArray × List ByteArray) :=
  bif decide ((l.length : Int) < needs k n l.length) then l.map (fun L => ([], L)) else scopes k t ns 0 (l.take (needs k n l.length).toNat) ++ (bif decide (k = 13) || decide (k = 18) then rs else [])
mutual
def Ex.free : Ex → List ByteArray
  | .mk k n t ns _ l rs _ => bif decide (k = 5) then [t] else gather [] [] (partsOf k n t ns (Ex.frees l) (Ar.frees rs))
def Ex.frees : List Ex → List (List ByteArray)
  | [] => []
  | v :: r => v.free :: Ex.frees r
def Ar.frees : List Ar → List (List ByteArray × List ByteArray)
  | [] => []
  | .mk p b :: r => (p.binds, b.free) :: Ar.frees r
end
def Ar.free (r : Ar) : List ByteArray × List ByteArray := (r.pat.binds, r.body.free)
theorem Ex.frees_eq : ∀ l : List Ex, Ex.frees l = l.map Ex.free
  | [] => rfl
  | v :: l => by rw [Ex.frees, Ex.frees_eq l]; rfl
theorem Ar.frees_eq : ∀ l : List Ar, Ar.frees l = l.map Ar.free
  | [] => rfl
  | .mk p b :: l => by rw [Ar.frees, Ar.frees_eq l]; rfl
theorem needs_neg {k n : Int} {a : Nat} (h : needs k n a < 0) : ¬ k = 5 ∧ ¬ k = 13 ∧ ¬ k = 18 := by
  refine ⟨?_, ?_, ?_⟩
  · rintro rfl; simp [needs] at h
  · rintro rfl; simp [needs] at h
  · rintro rfl
    cases d : decide (n < 0) <;> simp [needs, d] at h
theorem needs_six {n : Int} {a : Nat} : needs 6 n a = 2 := rfl
theorem needs_ten {n : Int} {a : Nat} : needs 10 n a = 1 := rfl
theorem sum_le_of {α : Type} {f g : α → Nat} : ∀ {l : List α}, (∀ a ∈ l, f a ≤ g a) → (l.map f).sum ≤ (l.map g).sum
  | [], _ => Nat.le_refl _
  | a :: l, h => by
    have := h a (by simp)
    have := sum_le_of (l := l) (fun x hx => h x (List.mem_cons_of_mem _ hx))
    simp only [List.map_cons, List.sum_cons]
    omega
theorem sum_take_le {α : Type} (f : α → Nat) : ∀ (l : List α) (k : Nat), ((l.take k).map f).sum ≤ (l.map f).sum
  | [], k => by simp
  | a :: l, 0 => by simp
  | a :: l, k + 1 => by have := sum_take_le f l k; simp only [List.take_succ_cons, List.map_cons, List.sum_cons]; omega
theorem V.nodes_mass (v : V) : v.nodes ≤ v.mass := by
  induction v using V.ind with
  | h k n t l ih =>
    have := sum_le_of ih
    rw [V.nodes, V.nodesAll_sum, V.mass, V.masses_sum]
    omega
theorem partsOf_le (k n : Int) (t : ByteArray) (ns : List ByteArray) (l : List (List ByteArray)) (rs : List (List ByteArray × List ByteArray)) : ((partsOf k n t ns l rs).map fun p => p.2.length).sum ≤ (l.map List.length).sum + (rs.map fun p => p.2.length).sum := by
  unfold partsOf
  cases decide ((l.length : Int) < needs k n l.length) with
  | true => simp only [cond]; rw [List.map_map]; exact Nat.le_add_right _ _
  | false =>
    simp only [cond]
    rw [List.map_append, List.sum_append, scopes_snd]
    have := sum_take_le List.length l (needs k n l.length).toNat
    cases decide (k = 13) || decide (k = 18) with
    | true => simp only []; omega
    | false => simp only [List.map_nil, List.sum_nil]; omega
theorem Ex.free_len (e : Ex) : e.free.length ≤ e.mass := by
  induction e using Ex.ind with
  | h k n t ns ys l rs p ih ihr =>
    have h1 := sum_le_of ih
    have h2 : (rs.map fun r => r.free.2.length).sum ≤ (rs.map Ar.mass).sum := sum_le_of fun r hr => by
      obtain ⟨q, b⟩ := r
      have := ihr _ hr q b rfl
      rw [Ar.mass]
      exact Nat.le_trans this (Nat.le_add_left _ _)
    rw [Ex.free, Ex.mass, Ex.masses_sum, Ar.masses_sum]
    cases decide (k = 5) with
    | true => simp only [cond, List.length_singleton]; have := far_pos k; omega
    | false =>
      simp only [cond]
      have h3 := gather_len [] (partsOf k n t ns (Ex.frees l) (Ar.frees rs)) []
      have h4 := partsOf_le k n t ns (Ex.frees l) (Ar.frees rs)
      rw [Ex.frees_eq, Ar.frees_eq, List.map_map, List.map_map] at h4
      rw [Ex.frees_eq, Ar.frees_eq] at h3
      simp only [List.length_nil, Nat.zero_add, Function.comp_def] at h3 h4 ⊢
      rw [Ex.frees_eq, Ar.frees_eq]
      omega
/-- the maps say what is gathered, and how often a name is bound -/
def SeenOk (m : List (ByteArray × T)) (out : List ByteArray) : Prop := ∀ s, (mget s m).getD (.lit (.bool false)) = .lit (.bool (hasS out s))
def times (s : ByteArray) (B : List ByteArray) : Nat := (B.filter fun x => decide (x = s)).length
def BndOk (m : List (ByteArray × T)) (B : List ByteArray) : Prop := ∀ s, (mget s m).getD (.lit (.int .i64 0)) = .lit (.int .i64 (times s B : Nat))
theorem times_app (s : ByteArray) (A B : List ByteArray) : times s (A ++ B) = times s A + times s B := by simp [times]
theorem times_le (s : ByteArray) (B : List ByteArray) : times s B ≤ B.length := List.length_filter_le _ _
theorem hasS_times (s : ByteArray) : ∀ B : List ByteArray, hasS B s = !decide ((times s B : Nat) = (0 : Int))
  | [] => rfl
  | x :: B => by
    have ih := hasS_times s B
    simp only [hasS, List.any_cons, times, List.filter_cons] at ih ⊢
    rw [ih]
    by_cases h : x = s
    · simp [h]; omega
    · simp [h]
theorem SeenOk.put {m : List (ByteArray × T)} {out : List ByteArray} (h : SeenOk m out) (s : ByteArray) : SeenOk (mput s (.lit (.bool true)) m) (out ++ [s]) := by
  intro x
  rw [mget_put, hasS_app, hasS_one]
  by_cases hx : x = s
  · subst hx; simp
  · rw [if_neg hx, h x]; simp [Ne.symm hx]
theorem BndOk.put {m : List (ByteArray × T)} {B B' : List ByteArray} (h : BndOk m B) (s : ByteArray) (z : Int) (hz : z = (times s B' : Nat)) (hB : ∀ x, x ≠ s → times x B' = times x B) : BndOk (mput s (.lit (.int .i64 z)) m) B' := by
  intro x
  rw [mget_put]
  by_cases hx : x = s
  · subst hx; simp [hz]
  · rw [if_neg hx, h x, hB x hx]
theorem free_five (n : Int) (t : ByteArray) (ns : List ByteArray) (ys : List Y) (l : List Ex) (rs : List Ar) (p : Int) : (Ex.mk 5 n t ns ys l rs p).free = [t] := rfl
def pa (a : Ex) : List ByteArray × List ByteArray := ([], a.free)
theorem free_parts {k : Int} (h5 : ¬ k = 5) (n : Int) (t : ByteArray) (ns : List ByteArray) (ys : List Y) (l : List Ex) (rs : List Ar) (p : Int) : (Ex.mk k n t ns ys l rs p).free = gather [] [] (partsOf k n t ns (l.map Ex.free) (rs.map Ar.free)) := by
  rw [Ex.free, Ex.frees_eq, Ar.frees_eq, decide_eq_false h5]
  rfl
theorem free_gather {k : Int} (h5 : ¬ k = 5) (n : Int) (t : ByteArray) (ns : List ByteArray) (ys : List Y) (l : List Ex) (rs : List Ar) (p : Int) (B out : List ByteArray) : addS B out (Ex.mk k n t ns ys l rs p).free = gather B out (partsOf k n t ns (l.map Ex.free) (rs.map Ar.free)) := by
  rw [free_parts h5, gather_two]
  rfl
theorem parts_more {k n : Int} {t : ByteArray} {ns : List ByteArray} {l : List Ex} {r : List (List ByteArray × List ByteArray)} (h : (l.length : Int) < needs k n l.length) : partsOf k n t ns (l.map Ex.free) r = l.map pa := by
  unfold partsOf
  rw [List.length_map, decide_eq_true h, List.map_map]
  rfl
theorem parts_few {k n : Int} {t : ByteArray} {ns : List ByteArray} {l : List Ex} {r : List (List ByteArray × List ByteArray)} (h : ¬ (l.length : Int) < needs k n l.length) : partsOf k n t ns (l.map Ex.free) r = scopes k t ns 0 ((l.take (needs k n l.length).toNat).map Ex.free) ++ (bif decide (k = 13) || decide (k = 18) then r else []) := by
  unfold partsOf
  rw [List.length_map, decide_eq_false h, List.map_take]
  rfl
theorem scopes_plain {k : Int} (h6 : ¬ k = 6) (h10 : ¬ k = 10) (t : ByteArray) (ns : List ByteArray) : ∀ (l : List Ex) (i : Nat), scopes k t ns i (l.map Ex.free) = l.map pa
  | [], _ => rfl
  | a :: l, i => by
    rw [List.map_cons, scopes, scopes_plain h6 h10 t ns l, List.map_cons]
    simp [inner, h6, h10, pa]
theorem parts_none {k n : Int} {t : ByteArray} {ns : List ByteArray} {l : List Ex} {r : List (List ByteArray × List ByteArray)} (h : needs k n l.length < 0) : partsOf k n t ns (l.map Ex.free) r = [] := by
  obtain ⟨_, h13, h18⟩ := needs_neg h
  rw [parts_few (by omega), show (needs k n l.length).toNat = 0 by omega, decide_eq_false h13, decide_eq_false h18]
  rfl
theorem parts_let {n : Int} {t : ByteArray} {ns : List ByteArray} {l : List Ex} {r : List (List ByteArray × List ByteArray)} {a b : Ex} (ha : l[0]? = some a) (hb : l[1]? = some b) : partsOf 6 n t ns (l.map Ex.free) r = [([], a.free), ([t], b.free)] := by
  rcases l with _ | ⟨x, _ | ⟨y, l⟩⟩
  · simp at ha
  · simp at hb
  · obtain rfl : x = a := by simpa using ha
    obtain rfl : y = b := by simpa using hb
    rw [parts_few (by rw [needs_six]; simp; omega), needs_six]
    rfl
theorem parts_fun {n : Int} {t : ByteArray} {ns : List ByteArray} {l : List Ex} {r : List (List ByteArray × List ByteArray)} {a : Ex} (ha : l[0]? = some a) : partsOf 10 n t ns (l.map Ex.free) r = [(ns, a.free)] := by
  rcases l with _ | ⟨x, l⟩
  · simp at ha
  · obtain rfl : x = a := by simpa using ha
    rw [parts_few (by rw [needs_ten]; simp; omega), needs_ten]
    rfl
theorem pa_step (B out : List ByteArray) {l : List Ex} {j : Nat} {a : Ex} (h : l[j]? = some a) : gather B out ((l.take (j + 1)).map pa) = addS B (gather B out ((l.take j).map pa)) a.free := by
  have := gather_snoc B (ps := l.map pa) (k := j) (p := pa a) (by rw [List.getElem?_map, h]; rfl) out
  rw [← List.map_take, ← List.map_take] at this
  rw [this, pa, List.append_nil]
theorem ar_step (B out : List ByteArray) {l : List Ar} {j : Nat} {a : Ar} (h : l[j]? = some a) : gather B out ((l.take (j + 1)).map Ar.free) = addS (B ++ a.pat.binds) (gather B out ((l.take j).map Ar.free)) a.body.free := by
  have := gather_snoc B (ps := l.map Ar.free) (k := j) (p := a.free) (by rw [List.getElem?_map, h]; rfl) out
  rw [← List.map_take, ← List.map_take] at this
  exact this
theorem sum_take_succ {α : Type} (f : α → Nat) {l : List α} {j : Nat} {a : α} (h : l[j]? = some a) : ((l.take (j + 1)).map f).sum = ((l.take j).map f).sum + f a := by
  rw [List.take_add_one, h, List.map_append, List.sum_append]
  simp
theorem pa_len (B out : List ByteArray) (l : List Ex) : (gather B out (l.map pa)).length ≤ out.length + (l.map Ex.mass).sum := by
  have h := gather_len B (l.map pa) out
  rw [List.map_map] at h
  have h2 : (l.map ((fun p : List ByteArray × List ByteArray => p.2.length) ∘ pa)).sum ≤ (l.map Ex.mass).sum := sum_le_of fun a _ => a.free_len
  omega
theorem ar_len (B out : List ByteArray) (l : List Ar) : (gather B out (l.map Ar.free)).length ≤ out.length + (l.map Ar.mass).sum := by
  have h := gather_len B (l.map Ar.free) out
  rw [List.map_map] at h
  have h2 : (l.map ((fun p : List ByteArray × List ByteArray => p.2.length) ∘ Ar.free)).sum ≤ (l.map Ar.mass).sum := sum_le_of fun a _ => by
    obtain ⟨q, b⟩ := a
    have := b.free_len
    rw [Ar.mass]
    exact Nat.le_trans this (Nat.le_add_left _ _)
  omega
theorem pa_fit (B out : List ByteArray) {l : List Ex} {j : Nat} {a : Ex} (h : l[j]? = some a) {X : Nat} (hX : out.length + (l.map Ex.mass).sum ≤ X) : (gather B out ((l.take j).map pa)).length + a.mass ≤ X := by
  have h1 := pa_len B out (l.take j)
  have h2 := sum_take_succ Ex.mass h
  have h3 := sum_take_le Ex.mass l (j + 1)
  omega
theorem ar_fit (B out : List ByteArray) {l : List Ar} {j : Nat} {a : Ar} (h : l[j]? = some a) {X : Nat} (hX : out.length + (l.map Ar.mass).sum ≤ X) : (gather B out ((l.take j).map Ar.free)).length + a.body.mass ≤ X := by
  have h1 := ar_len B out (l.take j)
  have h2 := sum_take_succ Ar.mass h
  have h3 := sum_take_le Ar.mass l (j + 1)
  have h4 : a.body.mass ≤ a.mass := by obtain ⟨q, b⟩ := a; exact Nat.le_add_left _ _
  omega
theorem ar_binds (a : Ar) : a.pat.binds.length + a.body.mass ≤ a.mass := by
  obtain ⟨q, b⟩ := a
  have h1 := q.binds_len
  have h2 := q.nodes_mass
  simp only [Ar.pat, Ar.body, Ar.mass]
  omega
theorem Ex.at_take {l : List Ex} {q j : Nat} {a : Ex} (hj : j < q) (h : l[j]? = some a) : (((Ex.all l).take (q * 8)).drop (j * 8)).take 8 = a.ts := by
  have h1 := Ex.at h
  rw [List.drop_take, List.take_take, Nat.min_eq_left (by omega)]
  exact h1
end Go.Proofs.YtllgibfmddihgaaDoor
namespace Go.Proofs.YtllgibfmddihgaaDoor
open Go.RowKit
theorem str_at1 {l : List ByteArray} {k : Nat} {s : ByteArray} (h : l[k]? = some s) : (l.flatMap strTs)[k * 1]? = some (.lit (.string s)) := by rw [Nat.mul_one]; exact str_at h
/-- a visit adds the free names that are not bound around -/
def Visits (e : Ex) : Prop := ∀ (bf bs bb : Nat) (v : Value) (ms mb : List (ByteArray × T)) (out B : List ByteArray), SeenOk ms out → BndOk mb B → out.length + e.mass ≤ 1048576 → B.length + e.mass ≤ 1048576 →
  AG Tryd.prog 139 [.ptr 2 bf 0, .c e.t] [.mp bs (mkeys Value.string ms), .mp bb (mkeys Value.string mb), .box bf 206 [.own 0 (.map (some bs)), .own 1 (.map (some bb)), .own 3 v], .row v 9 1 (out).length ((out).flatMap strTs)] (fun r hs => ∃ v' ms' mb', r = .tup [] ∧ hs = [.mp bs (mkeys Value.string ms'), .mp bb (mkeys Value.string mb'), .box bf 206 [.own 0 (.map (some bs)), .own 1 (.map (some bb)), .own 3 v'], .row v' 9 1 (addS B out e.free).length ((addS B out e.free).flatMap strTs)] ∧ SeenOk ms' (addS B out e.free) ∧ BndOk mb' B)
set_option maxRecDepth 100000 in
set_option maxHeartbeats 4000000 in
theorem under_ag (ns : List ByteArray) (e : Ex) (hv : Visits e) (bf bs bb : Nat) (v : Value) (ms mb : List (ByteArray × T)) (out B : List ByteArray) (hs : SeenOk ms out) (hb : BndOk mb B) (ho : out.length + e.mass ≤ 1048576) (hB : B.length + (ns.length + e.mass) ≤ 1048576) :
    AG Tryd.prog 169 [.ptr 2 bf 0, .c (strRow ns), .c e.t] [.mp bs (mkeys Value.string ms), .mp bb (mkeys Value.string mb), .box bf 206 [.own 0 (.map (some bs)), .own 1 (.map (some bb)), .own 3 v], .row v 9 1 (out).length ((out).flatMap strTs)] (fun r hs => ∃ v' ms' mb', r = .tup [] ∧ hs = [.mp bs (mkeys Value.string ms'), .mp bb (mkeys Value.string mb'), .box bf 206 [.own 0 (.map (some bs)), .own 1 (.map (some bb)), .own 3 v'], .row v' 9 1 (addS (B ++ ns) out e.free).length ((addS (B ++ ns) out e.free).flatMap strTs)] ∧ SeenOk ms' (addS (B ++ ns) out e.free) ∧ BndOk mb' B) := by
  have hvis := fun mb' h => hv bf bs bb v ms mb' out (B ++ ns) hs h ho (by rw [List.length_append]; omega)
  clear hv
  obtain ⟨W, hW⟩ : ∃ W, W = e.free := ⟨_, rfl⟩
  rw [← hW] at hvis ⊢
  clear hW
  obtain ⟨k0, n0, t0, ns0, ys0, l0, rs0, p0⟩ := e
  refine ag_enter 4 tok Tryd.func169 Tryd.ntmps169 Tryd.results169 rfl (by kernel_rfl) rfl fun F => ?_
  repeat (first | refine gG ?_ | refine zN1 (fun hlen => ?_) | refine zN2 (fun hlen => ?_) | refine zBf ?_)
  refine x_loop [7, 12, 13, 14, 15, 16, 17, 18, 19, 20, 21, 22, 23] (fun y : Nat × List (ByteArray × T) => [(12, .c (.lit (.int .i64 (y.1 : Nat))))]) (fun y => [.mp bs (mkeys Value.string ms), .mp bb (mkeys Value.string (y.2)), .box bf 206 [.own 0 (.map (some bs)), .own 1 (.map (some bb)), .own 3 v], .row v 9 1 (out).length ((out).flatMap strTs)]) (fun y => y.1 ≤ ns.length ∧ BndOk y.2 (B ++ ns.take y.1)) (fun y => ns.length - y.1) (0, mb) ⟨Nat.zero_le _, by simpa using hb⟩ ⟨rfl, trivial⟩ rfl ?_
  rintro ⟨k, mb1⟩ ⟨hk, hb1⟩
  dsimp only at hk hb1 ⊢
  repeat (first | refine gG ?_ | refine zN1 (fun hlen => ?_) | refine zN2 (fun hlen => ?_) | refine zBx (fun _ => ?_))
  refine x_cond rfl (fun h => ?_) (fun h => ?_)
  · have hk' : k < ns.length := by simpa using h
    obtain ⟨s, hsk⟩ := nth hk'
    have hlk := hb1 s
    have htl := times_le s (B ++ ns.take k)
    have htn : ns.take (k + 1) = ns.take k ++ [s] := by rw [List.take_add_one, hsk]; rfl
    have hte : times s (B ++ ns.take (k + 1)) = times s (B ++ ns.take k) + 1 := by rw [htn, ← List.append_assoc, times_app]; simp [times]
    have hnx : BndOk (mput s (.lit (.int .i64 ((times s (B ++ ns.take k) + 1 : Nat) : Int))) mb1) (B ++ ns.take (k + 1)) := hb1.put s _ (by rw [hte]) (fun x hx => by rw [htn, ← List.append_assoc, times_app]; simp [times, Ne.symm hx])
    rw [List.length_append, List.length_take] at htl
    have hbnd : times s (B ++ ns.take k) < 9223372036854775807 := by omega
    clear h hb1 htn hte hvis
    generalize times s (B ++ ns.take k) = m at *
    repeat (first | refine gG ?_ | refine zN1 (fun hlen => ?_) | refine zN2 (fun hlen => ?_) | refine zBx (fun _ => ?_))
    refine zIx k hk' ?_
    repeat (first | refine gG ?_ | refine zN1 (fun hlen => ?_) | refine zN2 (fun hlen => ?_) | refine zBx (fun _ => ?_))
    refine zEl1 (str_at1 hsk) ?_
    repeat (first | refine gG ?_ | refine zN1 (fun hlen => ?_) | refine zN2 (fun hlen => ?_) | refine zBx (fun _ => ?_))
    refine zLks 9 3 hlk ?_
    repeat (first | refine gG ?_ | refine zN1 (fun hlen => ?_) | refine zN2 (fun hlen => ?_) | refine zBx (fun _ => ?_))
    refine zUps 9 3 ?_
    repeat (first | refine gG ?_ | refine zN1 (fun hlen => ?_) | refine zN2 (fun hlen => ?_) | refine zBx (fun _ => ?_))
    exact ⟨(k + 1, _), ⟨hk', hnx⟩, by simp only; omega, x_wkd 4 ⟨rfl, trivial⟩ rfl (by repeat (first | exact ag_refl | refine ag_upd rfl ?_ | refine ag_at rfl rfl ?_))⟩
  · have hk' : k = ns.length := by
      have : ¬ k < ns.length := by simpa using h
      omega
    subst hk'
    clear h
    rw [List.take_length] at hb1
    have hc := hvis mb1 hb1
    clear hvis
    repeat (first | refine gG ?_ | refine zN1 (fun hlen => ?_) | refine zN2 (fun hlen => ?_) | refine zBx (fun _ => ?_))
    refine zCallG [0, 1, 2, 3] hc ?_
    rintro _ _ ⟨v2, ms2, mb2, rfl, rfl, hs2, hb2⟩
    refine ⟨.tup [], _, re_refl, rfl, rfl, ?_⟩
    have hlen := addS_len (B ++ ns) W out
    clear hc hb1 hb
    generalize addS (B ++ ns) out W = out2 at *
    repeat (first | refine gG ?_ | refine zN1 (fun hlen => ?_) | refine zN2 (fun hlen => ?_) | refine zBx (fun _ => ?_))
    refine x_loop [9, 29, 30, 31, 32, 33, 34, 35, 36, 37, 38, 39, 40] (fun y : Nat × List (ByteArray × T) => [(29, .c (.lit (.int .i64 (y.1 : Nat))))]) (fun y => [.mp bs (mkeys Value.string ms2), .mp bb (mkeys Value.string (y.2)), .box bf 206 [.own 0 (.map (some bs)), .own 1 (.map (some bb)), .own 3 v2], .row v2 9 1 (out2).length ((out2).flatMap strTs)]) (fun y => y.1 ≤ ns.length ∧ BndOk y.2 (B ++ ns.drop y.1)) (fun y => ns.length - y.1) (0, mb2) ⟨Nat.zero_le _, by simpa using hb2⟩ ⟨rfl, trivial⟩ rfl ?_
    rintro ⟨k, mb1⟩ ⟨hk, hb1⟩
    dsimp only at hk hb1 ⊢
    repeat (first | refine gG ?_ | refine zN1 (fun hlen => ?_) | refine zN2 (fun hlen => ?_) | refine zBx (fun _ => ?_))
    refine x_cond rfl (fun h => ?_) (fun h => ?_)
    · have hk' : k < ns.length := by simpa using h
      obtain ⟨s, hsk⟩ := nth hk'
      have hlk := hb1 s
      have htl := times_le s (B ++ ns.drop k)
      have htn : ns.drop k = s :: ns.drop (k + 1) := by
        obtain ⟨h1, rfl⟩ := List.getElem?_eq_some_iff.1 hsk
        exact List.drop_eq_getElem_cons h1
      have hte : times s (B ++ ns.drop k) = times s (B ++ ns.drop (k + 1)) + 1 := by rw [htn, times_app, times_app]; simp [times]; omega
      have hnx : BndOk (mput s (.lit (.int .i64 ((times s (B ++ ns.drop (k + 1)) : Nat) : Int))) mb1) (B ++ ns.drop (k + 1)) := hb1.put s _ rfl (fun x hx => by rw [htn, times_app, times_app]; simp [times, Ne.symm hx])
      rw [List.length_append, List.length_drop] at htl
      rw [hte] at hlk htl
      clear h hb1 htn hte
      generalize times s (B ++ ns.drop (k + 1)) = m at *
      repeat (first | refine gG ?_ | refine zN1 (fun hlen => ?_) | refine zN2 (fun hlen => ?_) | refine zBx (fun _ => ?_))
      refine zIx k hk' ?_
      repeat (first | refine gG ?_ | refine zN1 (fun hlen => ?_) | refine zN2 (fun hlen => ?_) | refine zBx (fun _ => ?_))
      refine zEl1 (str_at1 hsk) ?_
      repeat (first | refine gG ?_ | refine zN1 (fun hlen => ?_) | refine zN2 (fun hlen => ?_) | refine zBx (fun _ => ?_))
      refine zLks 9 3 hlk ?_
      repeat (first | refine gG ?_ | refine zN1 (fun hlen => ?_) | refine zN2 (fun hlen => ?_) | refine zBx (fun _ => ?_))
      refine lo_sub rfl rfl (r := (m : Int)) (by rw [IntWalk.i64_in _ (by omega)]; omega) ?_
      repeat (first | refine gG ?_ | refine zN1 (fun hlen => ?_) | refine zN2 (fun hlen => ?_) | refine zBx (fun _ => ?_))
      refine zUps 9 3 ?_
      repeat (first | refine gG ?_ | refine zN1 (fun hlen => ?_) | refine zN2 (fun hlen => ?_) | refine zBx (fun _ => ?_))
      exact ⟨(k + 1, _), ⟨hk', hnx⟩, by simp only; omega, x_wkd 4 ⟨rfl, trivial⟩ rfl (by repeat (first | exact ag_refl | refine ag_upd rfl ?_ | refine ag_at rfl rfl ?_))⟩
    · have hk' : k = ns.length := by
        have : ¬ k < ns.length := by simpa using h
        omega
      subst hk'
      clear h
      rw [List.drop_length, List.append_nil] at hb1
      repeat (first | refine gG ?_ | refine zN1 (fun hlen => ?_) | refine zN2 (fun hlen => ?_) | refine zBx (fun _ => ?_))
      refine zG ?_
      exact ⟨_, _, _, rfl, rfl, hs2, hb1⟩
set_option maxRecDepth 100000 in
set_option maxHeartbeats 16000000 in
theorem visit_ag (e : Ex) : Visits e := by
  induction e using Ex.ind with
  | h k n t ns ys l rs p ih ihr =>
    intro bf bs bb v ms mb out B hs hb ho hB
    have hnd := needs_af (Ex.mk k n t ns ys l rs p)
    simp only [Ex.needs] at hnd
    obtain ⟨m, hm⟩ : ∃ m, m = needs k n l.length := ⟨_, rfl⟩
    rw [← hm] at hnd
    rw [Ex.mass, Ex.masses_sum, Ar.masses_sum] at ho hB
    have hsl := strSize_len ns
    have hfk := far_pos k
    generalize far k = fk at *
    generalize far n = fn at *
    generalize far p = fp at *
    generalize Y.masses ys = fy at *
    generalize strSize ns = fs at *
    have hol : out.length + (l.map Ex.mass).sum + (rs.map Ar.mass).sum + 2 ≤ 1048576 := by omega
    have hBl : B.length + (ns.length + 1 + (l.map Ex.mass).sum) + (rs.map Ar.mass).sum ≤ 1048576 := by omega
    clear ho hB hsl hfk
    refine ag_enter 4 tok Tryd.func139 Tryd.ntmps139 Tryd.results139 rfl (by kernel_rfl) rfl fun F => ?_
    repeat (first | refine gG ?_ | refine zN1 (fun hlen => ?_) | refine zN2 (fun hlen => ?_) | refine zAl (fun _ => ?_) | refine zBf ?_ | refine zAp (fun _ => ?_))
    refine zCall (hnd) ?_
    rintro _ rfl
    clear hnd
    by_cases h5 : k = 5
    · subst h5
      obtain rfl : m = 0 := by rw [hm]; rfl
      clear hm ih ihr hBl
      have hlk := hb t
      have hls := hs t
      have htm := hasS_times t B
      have d3 : decide ((l.length : Int) < 0) = false := by simp
      have hf : addS B out (Ex.mk 5 n t ns ys l rs p).free = bif hasS B t || hasS out t then out else out ++ [t] := rfl
      rw [hf, htm]
      clear hf htm
      generalize times t B = tb at *
      cases e1 : decide (((tb : Nat) : Int) = 0)
      · repeat (first | refine gG ?_ | refine zN1 (fun hlen => ?_) | refine zN2 (fun hlen => ?_) | refine zAl (fun _ => ?_) | refine zBx (fun _ => ?_) | refine zAp (fun _ => ?_))
        refine ac_draw [1, 1, 1, 1, 1, 1, 1, 1, 1, 1, 1, 1, 1, 1, 1, 1, 1, 1] [0, 1, 2, 3, 4, 5, 6, 7, 8, 9, 10, 11, 12, 13, 14, 15, 16, 17] (by kernel_rfl) (by kernel_rfl) ?_
        refine gW ?_
        apply w_q; (focus exact rfl); (focus exact rfl); focus (intro _; (refine zLks 9 3 hlk ?_); exact det_refl)
        refine gW ?_
        try (first | (apply w_un; (focus exact rfl); (focus exact rfl); (focus exact rfl); (focus exact rfl)) | (apply w_no; (focus exact rfl); (focus exact rfl); (focus exact rfl); (focus exact rfl); focus (first | rfl | assumption | exact neg_t (by assumption) | exact neg_f (by assumption))) | (apply w_qg; (focus exact rfl); (focus exact rfl); (focus exact rfl); (focus exact rfl); (focus (first | rfl | assumption | exact neg_t (by assumption) | exact neg_f (by assumption))); (focus (intro _; (refine zLks 9 4 hls ?_); exact det_refl))))
        try refine gW ?_
        refine w_nil ?_
        repeat (first | refine gG ?_ | refine zN1 (fun hlen => ?_) | refine zN2 (fun hlen => ?_) | refine zAl (fun _ => ?_) | refine zBx (fun _ => ?_) | refine zAp (fun _ => ?_))
        refine zG ?_
        exact ⟨_, _, _, rfl, rfl, hs, hb⟩
      · cases e2 : hasS out t
        · rw [e2] at hls
          have hs2 := hs.put t
          repeat (first | refine gG ?_ | refine zN1 (fun hlen => ?_) | refine zN2 (fun hlen => ?_) | refine zAl (fun _ => ?_) | refine zBx (fun _ => ?_) | refine zAp (fun _ => ?_))
          refine ac_draw [1, 1, 1, 1, 1, 1, 1, 1, 1, 1, 1, 1, 1, 1, 1, 1, 1, 1] [0, 1, 2, 3, 4, 5, 6, 7, 8, 9, 10, 11, 12, 13, 14, 15, 16, 17] (by kernel_rfl) (by kernel_rfl) ?_
          refine gW ?_
          apply w_q; (focus exact rfl); (focus exact rfl); focus (intro _; (refine zLks 9 3 hlk ?_); exact det_refl)
          refine gW ?_
          try (first | (apply w_un; (focus exact rfl); (focus exact rfl); (focus exact rfl); (focus exact rfl)) | (apply w_no; (focus exact rfl); (focus exact rfl); (focus exact rfl); (focus exact rfl); focus (first | rfl | assumption | exact neg_t (by assumption) | exact neg_f (by assumption))) | (apply w_qg; (focus exact rfl); (focus exact rfl); (focus exact rfl); (focus exact rfl); (focus (first | rfl | assumption | exact neg_t (by assumption) | exact neg_f (by assumption))); (focus (intro _; (refine zLks 9 4 hls ?_); exact det_refl))))
          try refine gW ?_
          refine w_nil ?_
          repeat (first | refine gG ?_ | refine zN1 (fun hlen => ?_) | refine zN2 (fun hlen => ?_) | refine zAl (fun _ => ?_) | refine zBx (fun _ => ?_) | refine zAp (fun _ => ?_))
          refine ac_draw [1, 1, 1, 1, 1, 1, 2] [0, 1, 2, 3, 4, 5, 6] (by kernel_rfl) (by kernel_rfl) ?_
          refine gW ?_
          apply w_l; (focus exact rfl); (focus exact rfl); (refine zUps 9 4 ?_)
          refine w_nil ?_
          repeat (first | refine gG ?_ | refine zN1 (fun hlen => ?_) | refine zN2 (fun hlen => ?_) | refine zAl (fun _ => ?_) | refine zBx (fun _ => ?_) | refine zAp (fun _ => ?_))
          refine ac_draw [0, 1, 1, 1, 1, 1, 1, 1, 2, 0, 0, 2] [0, 1, 2, 3, 4, 5, 6, 7, 8, 9, 10, 11] (by kernel_rfl) (by kernel_rfl) ?_
          refine gW ?_
          apply w_l; (focus exact rfl); (focus exact rfl); (first | (refine zkL ?_; first | refine zL1 ?_ | refine zL2 ?_ | refine zL3 ?_ | refine zLp ?_) | refine zM ?_ | (refine zkF ?_; first | refine zF1 ?_ | refine zF2 ?_ | refine zF3 ?_) | refine zA ?_ | (refine zkB ?_; first | refine zC5 ?_ | refine zC6 ?_ | refine zC1 ?_ | refine zC2 ?_ | refine zC3 ?_ | refine zC4 ?_ | refine zS5 ?_ | refine zS6 ?_ | refine zS1 ?_ | refine zS2 ?_ | refine zS3 ?_ | refine zS4 ?_ | refine zInc ?_ | refine zQ1 ?_ | refine zQ2 ?_ | refine zQ3 ?_ | refine zQ4 ?_ | refine zQ5 ?_ | refine zQ6 ?_) | (refine zkI ?_; first | refine zN1 (fun hlen => ?_) | refine zN2 (fun hlen => ?_) | refine zN3 ?_ | refine zN4 ?_ | refine zAp (fun _ => ?_)) | refine zS ?_ | refine zAl (fun _ => ?_) | refine zBx (fun _ => ?_) | refine zPt ?_ | refine zPf ?_ | refine zE ?_ | refine zEA ?_ | refine zNot ?_ | refine zBd ?_ | refine zBs ?_ | refine zFn ?_ | refine zK1 ?_ | refine zK2 ?_)
          refine gW ?_
          apply w_l; (focus exact rfl); (focus exact rfl); (first | (refine zkL ?_; first | refine zL1 ?_ | refine zL2 ?_ | refine zL3 ?_ | refine zLp ?_) | refine zM ?_ | (refine zkF ?_; first | refine zF1 ?_ | refine zF2 ?_ | refine zF3 ?_) | refine zA ?_ | (refine zkB ?_; first | refine zC5 ?_ | refine zC6 ?_ | refine zC1 ?_ | refine zC2 ?_ | refine zC3 ?_ | refine zC4 ?_ | refine zS5 ?_ | refine zS6 ?_ | refine zS1 ?_ | refine zS2 ?_ | refine zS3 ?_ | refine zS4 ?_ | refine zInc ?_ | refine zQ1 ?_ | refine zQ2 ?_ | refine zQ3 ?_ | refine zQ4 ?_ | refine zQ5 ?_ | refine zQ6 ?_) | (refine zkI ?_; first | refine zN1 (fun hlen => ?_) | refine zN2 (fun hlen => ?_) | refine zN3 ?_ | refine zN4 ?_ | refine zAp (fun _ => ?_)) | refine zS ?_ | refine zAl (fun _ => ?_) | refine zBx (fun _ => ?_) | refine zPt ?_ | refine zPf ?_ | refine zE ?_ | refine zEA ?_ | refine zNot ?_ | refine zBd ?_ | refine zBs ?_ | refine zFn ?_ | refine zK1 ?_ | refine zK2 ?_)
          refine w_nil ?_
          repeat (first | refine gG ?_ | refine zN1 (fun hlen => ?_) | refine zN2 (fun hlen => ?_) | refine zAl (fun _ => ?_) | refine zBx (fun _ => ?_) | refine zAp (fun _ => ?_))
          refine zG ?_
          exact ⟨_, _, _, rfl, by rw [show (bif !true || false then out else out ++ [t]) = out ++ [t] from rfl]; simp only [List.flatMap_append, List.length_append]; rfl, hs2, hb⟩
        · rw [e2] at hls
          repeat (first | refine gG ?_ | refine zN1 (fun hlen => ?_) | refine zN2 (fun hlen => ?_) | refine zAl (fun _ => ?_) | refine zBx (fun _ => ?_) | refine zAp (fun _ => ?_))
          refine ac_draw [1, 1, 1, 1, 1, 1, 1, 1, 1, 1, 1, 1, 1, 1, 1, 1, 1, 1] [0, 1, 2, 3, 4, 5, 6, 7, 8, 9, 10, 11, 12, 13, 14, 15, 16, 17] (by kernel_rfl) (by kernel_rfl) ?_
          refine gW ?_
          apply w_q; (focus exact rfl); (focus exact rfl); focus (intro _; (refine zLks 9 3 hlk ?_); exact det_refl)
          refine gW ?_
          try (first | (apply w_un; (focus exact rfl); (focus exact rfl); (focus exact rfl); (focus exact rfl)) | (apply w_no; (focus exact rfl); (focus exact rfl); (focus exact rfl); (focus exact rfl); focus (first | rfl | assumption | exact neg_t (by assumption) | exact neg_f (by assumption))) | (apply w_qg; (focus exact rfl); (focus exact rfl); (focus exact rfl); (focus exact rfl); (focus (first | rfl | assumption | exact neg_t (by assumption) | exact neg_f (by assumption))); (focus (intro _; (refine zLks 9 4 hls ?_); exact det_refl))))
          try refine gW ?_
          refine w_nil ?_
          repeat (first | refine gG ?_ | refine zN1 (fun hlen => ?_) | refine zN2 (fun hlen => ?_) | refine zAl (fun _ => ?_) | refine zBx (fun _ => ?_) | refine zAp (fun _ => ?_))
          refine zG ?_
          exact ⟨_, _, _, rfl, rfl, hs, hb⟩
    have d5 : decide (k = 5) = false := decide_eq_false h5
    by_cases hneg : m < 0
    · have d1 : decide (m < 0) = true := decide_eq_true hneg
      rw [free_gather h5, parts_none (hm ▸ hneg)]
      clear ih ihr
      repeat (first | refine gG ?_ | refine zN1 (fun hlen => ?_) | refine zN2 (fun hlen => ?_) | refine zAl (fun _ => ?_) | refine zBx (fun _ => ?_) | refine zAp (fun _ => ?_))
      refine zG ?_
      exact ⟨_, _, _, rfl, rfl, hs, hb⟩
    have d1 : decide (m < 0) = false := decide_eq_false hneg
    by_cases hmore : (l.length : Int) < m
    · have d2 : decide ((l.length : Int) < m) = true := decide_eq_true hmore
      rw [free_gather h5, parts_more (hm ▸ hmore)]
      clear ihr hm hneg hmore
      repeat (first | refine gG ?_ | refine zN1 (fun hlen => ?_) | refine zN2 (fun hlen => ?_) | refine zAl (fun _ => ?_) | refine zBx (fun _ => ?_) | refine zAp (fun _ => ?_))
      refine x_loop [6, 25, 26, 27, 28, 29, 30, 31, 32] (fun y : Nat × Value × List (ByteArray × T) × List (ByteArray × T) => [(25, .c (.lit (.int .i64 (y.1 : Nat))))]) (fun y => [.mp bs (mkeys Value.string (y.2.2.1)), .mp bb (mkeys Value.string (y.2.2.2)), .box bf 206 [.own 0 (.map (some bs)), .own 1 (.map (some bb)), .own 3 y.2.1], .row y.2.1 9 1 (gather B out ((l.take y.1).map pa)).length ((gather B out ((l.take y.1).map pa)).flatMap strTs)])
        (fun y => y.1 ≤ l.length ∧ SeenOk y.2.2.1 (gather B out ((l.take y.1).map pa)) ∧ BndOk y.2.2.2 B) (fun y => l.length - y.1) (0, v, ms, mb) ⟨Nat.zero_le _, hs, hb⟩ ⟨rfl, trivial⟩ rfl ?_
      rintro ⟨j, v1, ms1, mb1⟩ ⟨hj, hs1, hb1⟩
      dsimp only at hj hs1 hb1 ⊢
      repeat (first | refine gG ?_ | refine zN1 (fun hlen => ?_) | refine zN2 (fun hlen => ?_) | refine zAl (fun _ => ?_) | refine zBx (fun _ => ?_) | refine zAp (fun _ => ?_))
      refine x_cond rfl (fun h => ?_) (fun h => ?_)
      · have hj' : j < l.length := by simpa using h
        obtain ⟨a, ha⟩ := nth hj'
        have hc := ih a (List.mem_of_getElem? ha) bf bs bb v1 ms1 mb1 _ B hs1 hb1 (pa_fit B out ha (by omega)) (by have := sum_mem' Ex.mass (List.mem_of_getElem? ha); omega)
        rw [← pa_step B out ha] at hc
        have hat := Ex.at ha
        clear h ha ih hs1 hb1
        generalize gather B out ((l.take j).map pa) = o1 at *
        obtain ⟨ka, na, ta, nsa, ysa, la, rsa, qa⟩ := a
        repeat (first | refine gG ?_ | refine zN1 (fun hlen => ?_) | refine zN2 (fun hlen => ?_) | refine zAl (fun _ => ?_) | refine zBx (fun _ => ?_) | refine zAp (fun _ => ?_))
        refine zIx (j) (hj') ?_
        repeat (first | refine gG ?_ | refine zN1 (fun hlen => ?_) | refine zN2 (fun hlen => ?_) | refine zAl (fun _ => ?_) | refine zBx (fun _ => ?_) | refine zAp (fun _ => ?_))
        refine zEl (hat) (Ex.ts_len _) ?_
        repeat (first | refine gG ?_ | refine zN1 (fun hlen => ?_) | refine zN2 (fun hlen => ?_) | refine zAl (fun _ => ?_) | refine zBx (fun _ => ?_) | refine zAp (fun _ => ?_))
        refine zCallG [0, 1, 2, 3] hc ?_
        rintro _ _ ⟨v2, ms2, mb2, rfl, rfl, hs2, hb2⟩
        refine ⟨.tup [], _, re_refl, rfl, rfl, ?_⟩
        repeat (first | refine gG ?_ | refine zN1 (fun hlen => ?_) | refine zN2 (fun hlen => ?_) | refine zAl (fun _ => ?_) | refine zBx (fun _ => ?_) | refine zAp (fun _ => ?_))
        exact ⟨(j + 1, v2, ms2, mb2), ⟨hj', hs2, hb2⟩, by simp only; omega, x_wkd 4 ⟨rfl, trivial⟩ rfl (by repeat (first | exact ag_refl | refine ag_upd rfl ?_ | refine ag_at rfl rfl ?_))⟩
      · have hj' : j = l.length := by
          have : ¬ j < l.length := by simpa using h
          omega
        subst hj'
        clear h
        rw [List.take_length] at hs1 ⊢
        repeat (first | refine gG ?_ | refine zN1 (fun hlen => ?_) | refine zN2 (fun hlen => ?_) | refine zAl (fun _ => ?_) | refine zBx (fun _ => ?_) | refine zAp (fun _ => ?_))
        refine zG ?_
        exact ⟨_, _, _, rfl, rfl, hs1, hb1⟩
    have d2 : decide ((l.length : Int) < m) = false := decide_eq_false hmore
    obtain ⟨q, rfl⟩ : ∃ q : Nat, m = (q : Int) := ⟨m.toNat, by omega⟩
    have hq : q ≤ l.length := by omega
    by_cases h6 : k = 6
    · subst h6
      obtain rfl : q = 2 := by have : ((q : Nat) : Int) = 2 := hm; omega
      obtain ⟨a0, ha0⟩ := nth (l := l) (k := 0) (by omega)
      obtain ⟨a1, ha1⟩ := nth (l := l) (k := 1) (by omega)
      have hfin : addS B out (Ex.mk 6 n t ns ys l rs p).free = addS (B ++ [t]) (addS B out a0.free) a1.free := by
        rw [free_gather h5, parts_let ha0 ha1]
        simp only [gather, List.append_nil]
      rw [hfin]
      have hm0 := sum_mem' Ex.mass (List.mem_of_getElem? ha0)
      have hm1 := sum_mem' Ex.mass (List.mem_of_getElem? ha1)
      have hm01 : a0.mass + a1.mass ≤ (l.map Ex.mass).sum := by
        have h1 := sum_take_succ Ex.mass ha1
        have h0 := sum_take_succ Ex.mass ha0
        have h2 := sum_take_le Ex.mass l 2
        simp only [List.take_zero, List.map_nil, List.sum_nil] at h0
        simp only [Nat.zero_add, Nat.reduceAdd] at h0 h1
        omega
      have hl0 := addS_len B a0.free out
      have hf0 := a0.free_len
      have hc0 := ih a0 (List.mem_of_getElem? ha0) bf bs bb v ms mb out B hs hb (by omega) (by omega)
      have hc1 := fun v1 ms1 mb1 h1 h2 => under_ag [t] a1 (ih a1 (List.mem_of_getElem? ha1)) bf bs bb v1 ms1 mb1 (addS B out a0.free) B h1 h2 (by omega) (by simp only [List.length_singleton]; omega)
      have hat0 := Ex.at ha0
      have hat1 := Ex.at ha1
      clear ih ihr hm hfin hl0 hf0
      generalize addS B out a0.free = o1 at *
      repeat (first | refine gG ?_ | refine zN1 (fun hlen => ?_) | refine zN2 (fun hlen => ?_) | refine zAl (fun _ => ?_) | refine zBx (fun _ => ?_) | refine zAp (fun _ => ?_))
      refine zIx 0 (show 0 < l.length by omega) ?_
      repeat (first | refine gG ?_ | refine zN1 (fun hlen => ?_) | refine zN2 (fun hlen => ?_) | refine zAl (fun _ => ?_) | refine zBx (fun _ => ?_) | refine zAp (fun _ => ?_))
      refine zEl hat0 (Ex.ts_len _) ?_
      repeat (first | refine gG ?_ | refine zN1 (fun hlen => ?_) | refine zN2 (fun hlen => ?_) | refine zAl (fun _ => ?_) | refine zBx (fun _ => ?_) | refine zAp (fun _ => ?_))
      refine zCallG [0, 1, 2, 3] hc0 ?_
      rintro _ _ ⟨v1, ms1, mb1, rfl, rfl, hs1, hb1⟩
      refine ⟨.tup [], _, re_refl, rfl, rfl, ?_⟩
      have hc := hc1 v1 ms1 mb1 hs1 hb1
      clear hc0 hc1
      repeat (first | refine gG ?_ | refine zN1 (fun hlen => ?_) | refine zN2 (fun hlen => ?_) | refine zAl (fun _ => ?_) | refine zBx (fun _ => ?_) | refine zAp (fun _ => ?_))
      refine ac_draw [1, 1, 1, 1, 1, 1, 1, 1, 2] [0, 1, 2, 3, 4, 5, 6, 7, 8] (by kernel_rfl) (by kernel_rfl) ?_
      refine gW ?_
      apply w_q; (focus exact rfl); (focus exact rfl); focus (intro _; (refine zIx 1 (show 1 < l.length by omega) ?_); exact det_refl)
      apply w_q; (focus exact rfl); (focus exact rfl); focus (intro _; (refine zEl hat1 (Ex.ts_len _) ?_); exact det_refl)
      apply w_l; (focus exact rfl); (focus exact rfl); (refine zCallG [0, 1, 2, 3] hc ?_; rintro _ _ ⟨v2, ms2, mb2, rfl, rfl, hs2, hb2⟩; refine ⟨.tup [], _, re_refl, rfl, rfl, ?_⟩)
      refine w_nil ?_
      repeat (first | refine gG ?_ | refine zN1 (fun hlen => ?_) | refine zN2 (fun hlen => ?_) | refine zAl (fun _ => ?_) | refine zBx (fun _ => ?_) | refine zAp (fun _ => ?_))
      refine zG ?_
      exact ⟨_, _, _, rfl, rfl, hs2, hb2⟩
    have d6 : decide (k = 6) = false := decide_eq_false h6
    by_cases h10 : k = 10
    · subst h10
      obtain rfl : q = 1 := by have : ((q : Nat) : Int) = 1 := hm; omega
      obtain ⟨a0, ha0⟩ := nth (l := l) (k := 0) (by omega)
      have hfin : addS B out (Ex.mk 10 n t ns ys l rs p).free = addS (B ++ ns) out a0.free := by
        rw [free_gather h5, parts_fun ha0]
        rfl
      rw [hfin]
      have hm0 := sum_mem' Ex.mass (List.mem_of_getElem? ha0)
      have hc := under_ag ns a0 (ih a0 (List.mem_of_getElem? ha0)) bf bs bb v ms mb out B hs hb (by omega) (by omega)
      have hat0 := Ex.at ha0
      clear ih ihr hm hfin
      repeat (first | refine gG ?_ | refine zN1 (fun hlen => ?_) | refine zN2 (fun hlen => ?_) | refine zAl (fun _ => ?_) | refine zBx (fun _ => ?_) | refine zAp (fun _ => ?_))
      refine ac_draw [1, 1, 1, 1, 1, 1, 1, 2] [0, 1, 2, 3, 4, 5, 6, 7] (by kernel_rfl) (by kernel_rfl) ?_
      refine gW ?_
      apply w_q; (focus exact rfl); (focus exact rfl); focus (intro _; (refine zIx 0 (show 0 < l.length by omega) ?_); exact det_refl)
      apply w_q; (focus exact rfl); (focus exact rfl); focus (intro _; (refine zEl hat0 (Ex.ts_len _) ?_); exact det_refl)
      apply w_l; (focus exact rfl); (focus exact rfl); (refine zCallG [0, 1, 2, 3] hc ?_; rintro _ _ ⟨v2, ms2, mb2, rfl, rfl, hs2, hb2⟩; refine ⟨.tup [], _, re_refl, rfl, rfl, ?_⟩)
      refine w_nil ?_
      repeat (first | refine gG ?_ | refine zN1 (fun hlen => ?_) | refine zN2 (fun hlen => ?_) | refine zAl (fun _ => ?_) | refine zBx (fun _ => ?_) | refine zAp (fun _ => ?_))
      refine zG ?_
      exact ⟨_, _, _, rfl, rfl, hs2, hb2⟩
    have d10 : decide (k = 10) = false := decide_eq_false h10
    have hfin : addS B out (Ex.mk k n t ns ys l rs p).free = gather B (gather B out ((l.take q).map pa)) (bif decide (k = 13) || decide (k = 18) then rs.map Ar.free else []) := by
      rw [free_gather h5, parts_few (hm ▸ hmore), scopes_plain h6 h10, gather_app, ← hm]
      rfl
    rw [hfin]
    clear hfin hm hneg hmore
    repeat (first | refine gG ?_ | refine zN1 (fun hlen => ?_) | refine zN2 (fun hlen => ?_) | refine zAl (fun _ => ?_) | refine zBx (fun _ => ?_) | refine zAp (fun _ => ?_))
    refine zPh q hq rfl ?_
    repeat (first | refine gG ?_ | refine zN1 (fun hlen => ?_) | refine zN2 (fun hlen => ?_) | refine zAl (fun _ => ?_) | refine zBx (fun _ => ?_) | refine zAp (fun _ => ?_))
    refine x_loop [8, 40, 41, 42, 43, 44, 45, 46, 47] (fun y : Nat × Value × List (ByteArray × T) × List (ByteArray × T) => [(40, .c (.lit (.int .i64 (y.1 : Nat))))]) (fun y => [.mp bs (mkeys Value.string (y.2.2.1)), .mp bb (mkeys Value.string (y.2.2.2)), .box bf 206 [.own 0 (.map (some bs)), .own 1 (.map (some bb)), .own 3 y.2.1], .row y.2.1 9 1 (gather B out ((l.take y.1).map pa)).length ((gather B out ((l.take y.1).map pa)).flatMap strTs)])
      (fun y => y.1 ≤ q ∧ SeenOk y.2.2.1 (gather B out ((l.take y.1).map pa)) ∧ BndOk y.2.2.2 B) (fun y => q - y.1) (0, v, ms, mb) ⟨Nat.zero_le _, hs, hb⟩ ⟨rfl, trivial⟩ rfl ?_
    rintro ⟨j, v1, ms1, mb1⟩ ⟨hj, hs1, hb1⟩
    dsimp only at hj hs1 hb1 ⊢
    repeat (first | refine gG ?_ | refine zN1 (fun hlen => ?_) | refine zN2 (fun hlen => ?_) | refine zAl (fun _ => ?_) | refine zBx (fun _ => ?_) | refine zAp (fun _ => ?_))
    refine x_cond rfl (fun h => ?_) (fun h => ?_)
    · have hj' : j < q := by simpa using h
      obtain ⟨a, ha⟩ := nth (l := l) (k := j) (by omega)
      have hc := ih a (List.mem_of_getElem? ha) bf bs bb v1 ms1 mb1 _ B hs1 hb1 (pa_fit B out ha (by omega)) (by have := sum_mem' Ex.mass (List.mem_of_getElem? ha); omega)
      rw [← pa_step B out ha] at hc
      have hat := Ex.at_take hj' ha
      clear h ha ih ihr hs1 hb1
      generalize gather B out ((l.take j).map pa) = o1 at *
      obtain ⟨ka, na, ta, nsa, ysa, la, rsa, qa⟩ := a
      repeat (first | refine gG ?_ | refine zN1 (fun hlen => ?_) | refine zN2 (fun hlen => ?_) | refine zAl (fun _ => ?_) | refine zBx (fun _ => ?_) | refine zAp (fun _ => ?_))
      refine zIx (j) (hj') ?_
      repeat (first | refine gG ?_ | refine zN1 (fun hlen => ?_) | refine zN2 (fun hlen => ?_) | refine zAl (fun _ => ?_) | refine zBx (fun _ => ?_) | refine zAp (fun _ => ?_))
      refine zEl (hat) (Ex.ts_len _) ?_
      repeat (first | refine gG ?_ | refine zN1 (fun hlen => ?_) | refine zN2 (fun hlen => ?_) | refine zAl (fun _ => ?_) | refine zBx (fun _ => ?_) | refine zAp (fun _ => ?_))
      refine zCallG [0, 1, 2, 3] hc ?_
      rintro _ _ ⟨v2, ms2, mb2, rfl, rfl, hs2, hb2⟩
      refine ⟨.tup [], _, re_refl, rfl, rfl, ?_⟩
      repeat (first | refine gG ?_ | refine zN1 (fun hlen => ?_) | refine zN2 (fun hlen => ?_) | refine zAl (fun _ => ?_) | refine zBx (fun _ => ?_) | refine zAp (fun _ => ?_))
      exact ⟨(j + 1, v2, ms2, mb2), ⟨hj', hs2, hb2⟩, by simp only; omega, x_wkd 4 ⟨rfl, trivial⟩ rfl (by repeat (first | exact ag_refl | refine ag_upd rfl ?_ | refine ag_at rfl rfl ?_))⟩
    · have hj' : j = q := by
        have : ¬ j < q := by simpa using h
        omega
      subst hj'
      clear h ih hs hb
      have hlo := pa_len B out (l.take j)
      have hlt := sum_take_le Ex.mass l j
      generalize gather B out ((l.take j).map pa) = o1 at *
      cases d13 : decide (k = 13)
      · cases d18 : decide (k = 18)
        · repeat (first | refine gG ?_ | refine zN1 (fun hlen => ?_) | refine zN2 (fun hlen => ?_) | refine zAl (fun _ => ?_) | refine zBx (fun _ => ?_) | refine zAp (fun _ => ?_))
          refine zG ?_
          exact ⟨_, _, _, rfl, rfl, hs1, hb1⟩
        · repeat (first | refine gG ?_ | refine zN1 (fun hlen => ?_) | refine zN2 (fun hlen => ?_) | refine zAl (fun _ => ?_) | refine zBx (fun _ => ?_) | refine zAp (fun _ => ?_))
          refine x_loop [10, 123, 124, 125, 126, 127, 128, 129, 130, 131, 132, 133, 134] (fun y : Nat × Value × List (ByteArray × T) × List (ByteArray × T) => [(123, .c (.lit (.int .i64 (y.1 : Nat))))]) (fun y => [.mp bs (mkeys Value.string (y.2.2.1)), .mp bb (mkeys Value.string (y.2.2.2)), .box bf 206 [.own 0 (.map (some bs)), .own 1 (.map (some bb)), .own 3 y.2.1], .row y.2.1 9 1 (gather B o1 ((rs.take y.1).map Ar.free)).length ((gather B o1 ((rs.take y.1).map Ar.free)).flatMap strTs)])
            (fun y => y.1 ≤ rs.length ∧ SeenOk y.2.2.1 (gather B o1 ((rs.take y.1).map Ar.free)) ∧ BndOk y.2.2.2 B) (fun y => rs.length - y.1) (0, v1, ms1, mb1) ⟨Nat.zero_le _, hs1, hb1⟩ ⟨rfl, trivial⟩ rfl ?_
          rintro ⟨i, v3, ms3, mb3⟩ ⟨hi, hs3, hb3⟩
          dsimp only at hi hs3 hb3 ⊢
          repeat (first | refine gG ?_ | refine zN1 (fun hlen => ?_) | refine zN2 (fun hlen => ?_) | refine zAl (fun _ => ?_) | refine zBx (fun _ => ?_) | refine zAp (fun _ => ?_))
          refine x_cond rfl (fun h => ?_) (fun h => ?_)
          · have hi' : i < rs.length := by simpa using h
            obtain ⟨a, ha⟩ := nth hi'
            have hmm := sum_mem' Ar.mass (List.mem_of_getElem? ha)
            have hab := ar_binds a
            have hva : Visits a.body := by obtain ⟨qa, ba⟩ := a; exact ihr _ (List.mem_of_getElem? ha) qa ba rfl
            have hc := under_ag a.pat.binds a.body hva bf bs bb v3 ms3 mb3 _ B hs3 hb3 (ar_fit B o1 ha (by omega)) (by omega)
            rw [← ar_step B o1 ha] at hc
            have hbd := bound_af a.pat (by have := a.pat.nodes_mass; obtain ⟨qa, ba⟩ := a; simp only [Ar.mass, Ar.pat] at *; omega)
            have hat := Ar.at ha
            clear h ha ihr hs3 hb3 hva hab hmm
            generalize gather B o1 ((rs.take i).map Ar.free) = o2 at *
            obtain ⟨⟨kq, nq, tq, lq⟩, ⟨ka, na, ta, nsa, ysa, la, rsa, qa⟩⟩ := a
            dsimp only [Ar.pat, Ar.body] at hc hbd
            generalize V.binds (.mk kq nq tq lq) = bq at *
            repeat (first | refine gG ?_ | refine zN1 (fun hlen => ?_) | refine zN2 (fun hlen => ?_) | refine zAl (fun _ => ?_) | refine zBx (fun _ => ?_) | refine zAp (fun _ => ?_))
            refine zIx (i) (hi') ?_
            repeat (first | refine gG ?_ | refine zN1 (fun hlen => ?_) | refine zN2 (fun hlen => ?_) | refine zAl (fun _ => ?_) | refine zBx (fun _ => ?_) | refine zAp (fun _ => ?_))
            refine zEl (hat) (Ar.ts_len _) ?_
            repeat (first | refine gG ?_ | refine zN1 (fun hlen => ?_) | refine zN2 (fun hlen => ?_) | refine zAl (fun _ => ?_) | refine zBx (fun _ => ?_) | refine zAp (fun _ => ?_))
            refine ac_draw [1, 1, 1, 1, 1, 1, 2] [0, 1, 2, 3, 4, 5, 6] (by kernel_rfl) (by kernel_rfl) ?_
            refine gW ?_
            apply w_q; (focus exact rfl); (focus exact rfl); focus (intro _; (refine zCall hbd ?_; rintro _ rfl); exact det_refl)
            refine gW ?_
            apply w_l; (focus exact rfl); (focus exact rfl); (refine zCallG [0, 1, 2, 3] hc ?_; rintro _ _ ⟨v2, ms2, mb2, rfl, rfl, hs2, hb2⟩; refine ⟨.tup [], _, re_refl, rfl, rfl, ?_⟩)
            refine w_nil ?_
            repeat (first | refine gG ?_ | refine zN1 (fun hlen => ?_) | refine zN2 (fun hlen => ?_) | refine zAl (fun _ => ?_) | refine zBx (fun _ => ?_) | refine zAp (fun _ => ?_))
            exact ⟨(i + 1, v2, ms2, mb2), ⟨hi', hs2, hb2⟩, by simp only; omega, x_wkd 4 ⟨rfl, trivial⟩ rfl (by repeat (first | exact ag_refl | refine ag_upd rfl ?_ | refine ag_at rfl rfl ?_))⟩
          · have hi' : i = rs.length := by
              have : ¬ i < rs.length := by simpa using h
              omega
            subst hi'
            clear h
            rw [List.take_length] at hs3 ⊢
            repeat (first | refine gG ?_ | refine zN1 (fun hlen => ?_) | refine zN2 (fun hlen => ?_) | refine zAl (fun _ => ?_) | refine zBx (fun _ => ?_) | refine zAp (fun _ => ?_))
            refine zG ?_
            exact ⟨_, _, _, rfl, rfl, hs3, hb3⟩
      · repeat (first | refine gG ?_ | refine zN1 (fun hlen => ?_) | refine zN2 (fun hlen => ?_) | refine zAl (fun _ => ?_) | refine zBx (fun _ => ?_) | refine zAp (fun _ => ?_))
        refine x_loop [10, 123, 124, 125, 126, 127, 128, 129, 130, 131, 132, 133, 134] (fun y : Nat × Value × List (ByteArray × T) × List (ByteArray × T) => [(123, .c (.lit (.int .i64 (y.1 : Nat))))]) (fun y => [.mp bs (mkeys Value.string (y.2.2.1)), .mp bb (mkeys Value.string (y.2.2.2)), .box bf 206 [.own 0 (.map (some bs)), .own 1 (.map (some bb)), .own 3 y.2.1], .row y.2.1 9 1 (gather B o1 ((rs.take y.1).map Ar.free)).length ((gather B o1 ((rs.take y.1).map Ar.free)).flatMap strTs)])
          (fun y => y.1 ≤ rs.length ∧ SeenOk y.2.2.1 (gather B o1 ((rs.take y.1).map Ar.free)) ∧ BndOk y.2.2.2 B) (fun y => rs.length - y.1) (0, v1, ms1, mb1) ⟨Nat.zero_le _, hs1, hb1⟩ ⟨rfl, trivial⟩ rfl ?_
        rintro ⟨i, v3, ms3, mb3⟩ ⟨hi, hs3, hb3⟩
        dsimp only at hi hs3 hb3 ⊢
        repeat (first | refine gG ?_ | refine zN1 (fun hlen => ?_) | refine zN2 (fun hlen => ?_) | refine zAl (fun _ => ?_) | refine zBx (fun _ => ?_) | refine zAp (fun _ => ?_))
        refine x_cond rfl (fun h => ?_) (fun h => ?_)
        · have hi' : i < rs.length := by simpa using h
          obtain ⟨a, ha⟩ := nth hi'
          have hmm := sum_mem' Ar.mass (List.mem_of_getElem? ha)
          have hab := ar_binds a
          have hva : Visits a.body := by obtain ⟨qa, ba⟩ := a; exact ihr _ (List.mem_of_getElem? ha) qa ba rfl
          have hc := under_ag a.pat.binds a.body hva bf bs bb v3 ms3 mb3 _ B hs3 hb3 (ar_fit B o1 ha (by omega)) (by omega)
          rw [← ar_step B o1 ha] at hc
          have hbd := bound_af a.pat (by have := a.pat.nodes_mass; obtain ⟨qa, ba⟩ := a; simp only [Ar.mass, Ar.pat] at *; omega)
          have hat := Ar.at ha
          clear h ha ihr hs3 hb3 hva hab hmm
          generalize gather B o1 ((rs.take i).map Ar.free) = o2 at *
          obtain ⟨⟨kq, nq, tq, lq⟩, ⟨ka, na, ta, nsa, ysa, la, rsa, qa⟩⟩ := a
          dsimp only [Ar.pat, Ar.body] at hc hbd
          generalize V.binds (.mk kq nq tq lq) = bq at *
          repeat (first | refine gG ?_ | refine zN1 (fun hlen => ?_) | refine zN2 (fun hlen => ?_) | refine zAl (fun _ => ?_) | refine zBx (fun _ => ?_) | refine zAp (fun _ => ?_))
          refine zIx (i) (hi') ?_
          repeat (first | refine gG ?_ | refine zN1 (fun hlen => ?_) | refine zN2 (fun hlen => ?_) | refine zAl (fun _ => ?_) | refine zBx (fun _ => ?_) | refine zAp (fun _ => ?_))
          refine zEl (hat) (Ar.ts_len _) ?_
          repeat (first | refine gG ?_ | refine zN1 (fun hlen => ?_) | refine zN2 (fun hlen => ?_) | refine zAl (fun _ => ?_) | refine zBx (fun _ => ?_) | refine zAp (fun _ => ?_))
          refine ac_draw [1, 1, 1, 1, 1, 1, 2] [0, 1, 2, 3, 4, 5, 6] (by kernel_rfl) (by kernel_rfl) ?_
          refine gW ?_
          apply w_q; (focus exact rfl); (focus exact rfl); focus (intro _; (refine zCall hbd ?_; rintro _ rfl); exact det_refl)
          refine gW ?_
          apply w_l; (focus exact rfl); (focus exact rfl); (refine zCallG [0, 1, 2, 3] hc ?_; rintro _ _ ⟨v2, ms2, mb2, rfl, rfl, hs2, hb2⟩; refine ⟨.tup [], _, re_refl, rfl, rfl, ?_⟩)
          refine w_nil ?_
          repeat (first | refine gG ?_ | refine zN1 (fun hlen => ?_) | refine zN2 (fun hlen => ?_) | refine zAl (fun _ => ?_) | refine zBx (fun _ => ?_) | refine zAp (fun _ => ?_))
          exact ⟨(i + 1, v2, ms2, mb2), ⟨hi', hs2, hb2⟩, by simp only; omega, x_wkd 4 ⟨rfl, trivial⟩ rfl (by repeat (first | exact ag_refl | refine ag_upd rfl ?_ | refine ag_at rfl rfl ?_))⟩
        · have hi' : i = rs.length := by
            have : ¬ i < rs.length := by simpa using h
            omega
          subst hi'
          clear h
          rw [List.take_length] at hs3 ⊢
          repeat (first | refine gG ?_ | refine zN1 (fun hlen => ?_) | refine zN2 (fun hlen => ?_) | refine zAl (fun _ => ?_) | refine zBx (fun _ => ?_) | refine zAp (fun _ => ?_))
          refine zG ?_
          exact ⟨_, _, _, rfl, rfl, hs3, hb3⟩
set_option maxRecDepth 100000 in
set_option maxHeartbeats 4000000 in
theorem free_af (e : Ex) (he : e.mass ≤ 1048576) : AF Tryd.prog 58 [e.t] (· = strRow e.free) := by
  have hc := fun bf bs bb v => visit_ag e bf bs bb v [] [] [] [] (fun s => rfl) (fun s => rfl) (by simp only [List.length_nil]; omega) (by simp only [List.length_nil]; omega)
  have hfin : addS [] [] e.free = e.free := by
    obtain ⟨k, n, t, ns, ys, l, rs, p⟩ := e
    by_cases h5 : k = 5
    · subst h5; rfl
    · rw [free_gather h5, free_parts h5]
  rw [hfin] at hc
  clear hfin
  generalize e.free = W at *
  obtain ⟨k0, n0, t0, ns0, ys0, l0, rs0, p0⟩ := e
  refine af_enter tok Tryd.func58 Tryd.ntmps58 Tryd.results58 rfl (by kernel_rfl) rfl rfl fun F hX => ?_
  repeat (first | refine ac_seq ?_ | refine ac_block ?_ | refine ac_region ?_)
  repeat (first | refine gO ?_ | refine zAl (fun _ => ?_) | refine zBf ?_)
  repeat (first | refine ac_seq ?_ | refine ac_block ?_ | refine ac_region ?_)
  refine zOp ?_
  refine zMm (fun b1 => ?_)
  refine zOp ?_
  refine zMm (fun b2 => ?_)
  repeat (first | refine gO ?_ | refine zAl (fun _ => ?_) | refine zBf ?_)
  refine x_own_cell 2 2 9 1 rfl rfl rfl rfl rfl rfl ?_
  repeat (first | refine gG ?_ | refine zAl (fun _ => ?_) | refine zBx (fun _ => ?_))
  refine zCallG [0, 1, 2, 3] (hc _ _ _ _) ?_
  rintro _ _ ⟨v', ms', mb', rfl, rfl, _, _⟩
  refine ⟨.tup [], _, re_refl, rfl, rfl, ?_⟩
  repeat (first | refine gG ?_ | refine zAl (fun _ => ?_) | refine zBx (fun _ => ?_))
  first | refine zR ?_ | refine zQ ?_
  rfl
end Go.Proofs.YtllgibfmddihgaaDoor
