/-
  Texts of this proof, part 6: Tit Tma Tmb Tmc Tmd.
-/
import Derived.Test.YtllgibfmddihgaaDoorQExcerptSays5
import Derived.Laws.Strings2
import Derived.Laws.StructEq
import Derived.Lib.AppendStr
import Derived.Lib.ItoaNum
import Derived.Lib.MinMax
import Derived.MapKept
namespace Go.Proofs.YtllgibfmddihgaaDoor
open Go.RowKit
theorem gPow : Tryd.prog.globalNamed "internal/strconv.uint64pow10" = some 0 := by kernel_rfl
theorem itoa_af (n : Int) (h : inI n) : AF Tryd.prog 46 [.lit (.int .i64 n)] (· = .lit (.string (bs (Lib.itoa n)))) := by
  refine ⟨⟨_, Tryd.func46, by kernel_rfl, by kernel_rfl⟩, fun M w vs hG hM hvs => ?_⟩
  simp only [RTs, RT] at hvs
  obtain ⟨x, r, rfl, rfl, rfl⟩ := hvs
  obtain ⟨t, fr, e⟩ := hG _ (List.mem_singleton.2 rfl)
  have htab : Lib.TabIs Tryd.prog w "internal/strconv.uint64pow10" .u64 Lib.pow10Tab := by
    unfold Lib.TabIs World.var?
    rw [gPow]
    simp only [Option.bind_some]
    rw [e]
  refine (itoa_calls n h.1 h.2 w htab).mono fun e w' ⟨he, k, os, hw⟩ => ?_
  subst he
  have hb : Below w.heap.size w w' := by
    subst hw
    refine ⟨rfl, rfl, rfl, ?_, fun b hb => ?_⟩
    · show w.heap.size ≤ (w.heap ++ os).size
      simp
    · show (w.heap ++ os)[b]? = w.heap[b]?
      rw [Array.getElem?_append_left hb]
  exact ⟨_, _, M, rfl, rfl, Ext.refl _ _, hM.below hb, by simp only [RT]; rfl, hb⟩
end Go.Proofs.YtllgibfmddihgaaDoor
namespace Go.Proofs.YtllgibfmddihgaaDoor
open Go.RowKit
def numB (x : Int) : List UInt8 := Lib.itoa x ++ [44]
def textB (s : ByteArray) : List UInt8 := numB (s.size : Nat) ++ s.data.toList
def numsB (l : List Int) : List UInt8 := l.flatMap numB
def textsB (l : List ByteArray) : List UInt8 := l.flatMap textB
structure Code {α : Type} (enc : α → List UInt8) (eq : α → α → Bool) (a : α) : Prop where
  to : ∀ b, eq a b = true → enc a = enc b
  of : ∀ b r s, enc a ++ r = enc b ++ s → eq a b = true ∧ r = s
def eqStr (x y : ByteArray) : Bool := decide (x = y)
mutual
def Y.mark : Y → List UInt8
  | .mk k n l => numB k ++ (numB (l.length : Nat) ++ (textB n ++ Y.marks l))
def Y.marks : List Y → List UInt8
  | [] => []
  | v :: r => v.mark ++ Y.marks r
end
mutual
def Y.same : Y → Y → Bool
  | .mk k n l, .mk k' n' l' => decide (k = k') && (decide (n = n') && Y.sames l l')
def Y.sames : List Y → List Y → Bool
  | [], [] => true
  | a :: l, b :: r => a.same b && Y.sames l r
  | [], _ :: _ => false
  | _ :: _, [] => false
end
theorem Y.marks_eq : ∀ l : List Y, Y.marks l = l.flatMap Y.mark
  | [] => rfl
  | v :: l => by rw [Y.marks, Y.marks_eq l]; rfl
mutual
def V.mark : V → List UInt8
  | .mk k n t l => numB k ++ (numB n ++ (numB (l.length : Nat) ++ (textB t ++ V.marks l)))
def V.marks : List V → List UInt8
  | [] => []
  | v :: r => v.mark ++ V.marks r
end
mutual
def V.alike : V → V → Bool
  | .mk k n t l, .mk k' n' t' l' => decide (k = k') && (decide (n = n') && (decide (t = t') && V.alikes l l'))
def V.alikes : List V → List V → Bool
  | [], [] => true
  | a :: l, b :: r => a.alike b && V.alikes l r
  | [], _ :: _ => false
  | _ :: _, [] => false
end
theorem V.marks_eq : ∀ l : List V, V.marks l = l.flatMap V.mark
  | [] => rfl
  | v :: l => by rw [V.marks, V.marks_eq l]; rfl
mutual
def Ex.mark : Ex → List UInt8
  | .mk k n t ns ys l rs _ => numB k ++ (numB n ++ (numB (ns.length : Nat) ++ (numB (ys.length : Nat) ++ (numB (l.length : Nat) ++ (numB (rs.length : Nat) ++ (textB t ++ (textsB ns ++ (ys.flatMap Y.mark ++ (Ex.marks l ++ Ar.marks rs)))))))))
def Ex.marks : List Ex → List UInt8
  | [] => []
  | v :: r => v.mark ++ Ex.marks r
def Ar.mark : Ar → List UInt8
  | .mk p b => p.mark ++ b.mark
def Ar.marks : List Ar → List UInt8
  | [] => []
  | v :: r => v.mark ++ Ar.marks r
end
mutual
def Ex.same : Ex → Ex → Bool
  | .mk k n t ns ys l rs _, .mk k' n' t' ns' ys' l' rs' _ => decide (k = k') && (decide (n = n') && (decide (t = t') && (eqBy eqStr ns ns' && (eqBy Y.same ys ys' && (Ex.sames l l' && Ar.sames rs rs')))))
def Ex.sames : List Ex → List Ex → Bool
  | [], [] => true
  | a :: l, b :: r => a.same b && Ex.sames l r
  | [], _ :: _ => false
  | _ :: _, [] => false
def Ar.same : Ar → Ar → Bool
  | .mk p b, .mk p' b' => p.alike p' && b.same b'
def Ar.sames : List Ar → List Ar → Bool
  | [], [] => true
  | a :: l, b :: r => a.same b && Ar.sames l r
  | [], _ :: _ => false
  | _ :: _, [] => false
end
theorem Ex.marks_eq : ∀ l : List Ex, Ex.marks l = l.flatMap Ex.mark
  | [] => rfl
  | v :: l => by rw [Ex.marks, Ex.marks_eq l]; rfl
theorem Ar.marks_eq : ∀ l : List Ar, Ar.marks l = l.flatMap Ar.mark
  | [] => rfl
  | v :: l => by rw [Ar.marks, Ar.marks_eq l]; rfl
def namesB (l : List ByteArray) : List UInt8 := numB (l.length : Nat) ++ textsB l
def typesB (l : List Y) : List UInt8 := numB (l.length : Nat) ++ l.flatMap Y.mark
def Fu.mark (f : Fu) : List UInt8 := textB f.name ++ (namesB f.params ++ (namesB f.names ++ (typesB f.types ++ (f.out.mark ++ f.body.mark))))
def Fu.same (f g : Fu) : Bool := decide (f.name = g.name) && (eqBy eqStr f.params g.params && (eqBy eqStr f.names g.names && (eqBy Y.same f.types g.types && (f.out.same g.out && f.body.same g.body))))
def funcsB (l : List Fu) : List UInt8 := numB (l.length : Nat) ++ l.flatMap Fu.mark
def Us.mark (u : Us) : List UInt8 := textB u.name ++ (numB u.low ++ numB u.high)
def Us.same (u v : Us) : Bool := decide (u.name = v.name) && (decide (u.low = v.low) && decide (u.high = v.high))
def Mk.mark (m : Mk) : List UInt8 := textB m.name ++ typesB m.args
def Mk.same (m n : Mk) : Bool := decide (m.name = n.name) && eqBy Y.same m.args n.args
def Da.mark (d : Da) : List UInt8 := textB d.name ++ (numB (d.makes.length : Nat) ++ (namesB d.params ++ d.makes.flatMap Mk.mark))
def Da.same (d e : Da) : Bool := decide (d.name = e.name) && (eqBy eqStr d.params e.params && eqBy Mk.same d.makes e.makes)
def Tr.mark (t : Tr) : List UInt8 := textB t.name ++ funcsB t.funcs
def Tr.same (t u : Tr) : Bool := decide (t.name = u.name) && eqBy Fu.same t.funcs u.funcs
def Im.mark (t : Im) : List UInt8 := textB t.trait ++ (textB t.dat ++ funcsB t.funcs)
def Im.same (t u : Im) : Bool := decide (t.trait = u.trait) && (decide (t.dat = u.dat) && eqBy Fu.same t.funcs u.funcs)
def Ac.mark (x : Ac) : List UInt8 := textB x.name ++ (namesB x.names ++ (typesB x.types ++ (x.msg.mark ++ x.body.mark)))
def Ac.same (x y : Ac) : Bool := decide (x.name = y.name) && (eqBy eqStr x.names y.names && (eqBy Y.same x.types y.types && (x.msg.same y.msg && x.body.same y.body)))
def Pr.mark (p : Pr) : List UInt8 :=
  textB p.name ++ (numB p.version ++ (numB (p.uses.length : Nat) ++ (numB (p.datas.length : Nat) ++ (numB (p.traits.length : Nat) ++ (numB (p.impls.length : Nat) ++ (numB (p.actors.length : Nat) ++
    (p.uses.flatMap Us.mark ++ (p.datas.flatMap Da.mark ++ (p.traits.flatMap Tr.mark ++ (p.impls.flatMap Im.mark ++ (funcsB p.funcs ++ p.actors.flatMap Ac.mark)))))))))))
def Pr.same (p q : Pr) : Bool :=
  decide (p.name = q.name) && (decide (p.version = q.version) && (eqBy Us.same p.uses q.uses && (eqBy Da.same p.datas q.datas && (eqBy Tr.same p.traits q.traits && (eqBy Im.same p.impls q.impls && (eqBy Fu.same p.funcs q.funcs && eqBy Ac.same p.actors q.actors))))))
theorem Code.self {α : Type} {enc : α → List UInt8} {eq : α → α → Bool} {a : α} (h : Code enc eq a) : eq a a = true := (h.of a [] [] rfl).1
end Go.Proofs.YtllgibfmddihgaaDoor
namespace Go.Proofs.YtllgibfmddihgaaDoor
open Go.RowKit
theorem take_flat_le {α : Type} (f : α → List UInt8) (l : List α) (k : Nat) : ((l.take k).flatMap f).length ≤ (l.flatMap f).length := by
  have := congrArg (fun r => (List.flatMap f r).length) (List.take_append_drop k l)
  simp only [List.flatMap_append, List.length_append] at this
  omega
theorem mem_flat_le {α : Type} (f : α → List UInt8) {l : List α} {a : α} (h : a ∈ l) : (f a).length ≤ (l.flatMap f).length := by
  obtain ⟨s, t, rfl⟩ := List.append_of_mem h
  simp only [List.flatMap_append, List.flatMap_cons, List.length_append]
  omega
theorem bs_take0 {α : Type} (f : α → List UInt8) (l : List α) (p : List UInt8) : bs (p ++ (l.take 0).flatMap f) = bs p := by simp
set_option maxRecDepth 100000 in
set_option maxHeartbeats 1000000 in
theorem nums_af (l : List Int) (hi : ∀ n ∈ l, inI n) (hb : (numsB l).length ≤ 1099511627776) : AF Tryd.prog 96 [intRow l] (· = .lit (.string (bs (numsB l)))) := by
  refine af_enter tok Tryd.func96 Tryd.ntmps96 Tryd.results96 rfl (by kernel_rfl) rfl rfl fun F hX => ?_
  repeat (first | refine gG ?_ | refine zN1 (fun hlen => ?_) | refine zN2 (fun hlen => ?_))
  refine x_loop [3, 5, 8, 9, 10, 11, 12, 13, 14, 15, 16, 17] (fun k : Nat => [(8, .c (.lit (.int .i64 (k : Nat)))), (3, .c (.lit (.string (bs ((l.take k).flatMap numB)))))]) (fun _ => []) (fun k => k ≤ l.length) (fun k => l.length - k) 0 (Nat.zero_le _) ⟨rfl, rfl, trivial⟩ rfl ?_
  intro k hk
  repeat (first | refine gG ?_ | refine zN1 (fun hlen => ?_) | refine zN2 (fun hlen => ?_))
  refine x_cond rfl (fun h => ?_) (fun h => ?_)
  · have hk' : k < l.length := by simpa using h
    obtain ⟨a, ha⟩ := nth hk'
    have hc := itoa_af a (hi a (List.mem_of_getElem? ha))
    have hsn := flat_snoc' numB ha
    have h1 := take_flat_le numB l k
    have h2 := mem_flat_le numB (List.mem_of_getElem? ha)
    have e2 : numB a = Lib.itoa a ++ [44] := rfl
    have h3 : (numB a).length = (Lib.itoa a).length + 1 := by rw [e2, List.length_append]; rfl
    unfold numsB at hb
    clear h
    repeat (first | refine gG ?_ | refine zN1 (fun hlen => ?_) | refine zN2 (fun hlen => ?_))
    refine zIx k hk' ?_
    repeat (first | refine gG ?_ | refine zN1 (fun hlen => ?_) | refine zN2 (fun hlen => ?_))
    refine zEl1 (v := .lit (.int .i64 a)) (int_at ha) ?_
    repeat (first | refine gG ?_ | refine zN1 (fun hlen => ?_) | refine zN2 (fun hlen => ?_))
    refine zCall (hc) ?_
    rintro _ rfl
    repeat (first | refine gG ?_ | refine zN1 (fun hlen => ?_) | refine zN2 (fun hlen => ?_))
    refine zCatb (Lib.itoa a) [44] (by simp only [List.length_cons, List.length_nil]; omega) ?_
    repeat (first | refine gG ?_ | refine zN1 (fun hlen => ?_) | refine zN2 (fun hlen => ?_))
    refine zCatb ((l.take k).flatMap numB) (numB a) (by omega) ?_
    repeat (first | refine gG ?_ | refine zN1 (fun hlen => ?_) | refine zN2 (fun hlen => ?_))
    exact ⟨k + 1, hk', by omega, x_wkd 0 ⟨rfl, by rw [hsn]; rfl, trivial⟩ rfl (by repeat (first | exact ag_refl | refine ag_upd rfl ?_ | refine ag_at rfl rfl ?_))⟩
  · have hk' : k = l.length := by have : ¬ k < l.length := by simpa using h
                                  omega
    subst hk'
    repeat (first | refine gG ?_ | refine zN1 (fun hlen => ?_) | refine zN2 (fun hlen => ?_))
    first | refine zR ?_ | refine zQ ?_
    rw [List.take_length]
    rfl
theorem num1_af (n : Int) (h : inI n) (hb : (numB n).length ≤ 1099511627776) : AF Tryd.prog 96 [intRow [n]] (· = .lit (.string (bs (numB n)))) := by
  have := nums_af [n] (by simpa using h) (by simpa [numsB] using hb)
  simpa [numsB] using this
theorem inI_nat {n : Nat} (h : n ≤ 9223372036854775807) : inI (n : Int) := by unfold inI; omega
set_option maxRecDepth 100000 in
set_option maxHeartbeats 1000000 in
theorem texts_af (l : List ByteArray) (hb : (textsB l).length ≤ 1099511627776) : AF Tryd.prog 95 [strRow l] (· = .lit (.string (bs (textsB l)))) := by
  refine af_enter tok Tryd.func95 Tryd.ntmps95 Tryd.results95 rfl (by kernel_rfl) rfl rfl fun F hX => ?_
  repeat (first | refine gG ?_ | refine zN1 (fun hlen => ?_) | refine zN2 (fun hlen => ?_))
  refine x_loop [3, 5, 8, 9, 10, 11, 12, 13, 14, 15, 16, 17, 18, 19, 20] (fun k : Nat => [(8, .c (.lit (.int .i64 (k : Nat)))), (3, .c (.lit (.string (bs ((l.take k).flatMap textB)))))]) (fun _ => []) (fun k => k ≤ l.length) (fun k => l.length - k) 0 (Nat.zero_le _) ⟨rfl, rfl, trivial⟩ rfl ?_
  intro k hk
  repeat (first | refine gG ?_ | refine zN1 (fun hlen => ?_) | refine zN2 (fun hlen => ?_))
  refine x_cond rfl (fun h => ?_) (fun h => ?_)
  · have hk' : k < l.length := by simpa using h
    obtain ⟨a, ha⟩ := nth hk'
    have hsn := flat_snoc' textB ha
    have h1 := take_flat_le textB l k
    have h2 := mem_flat_le textB (List.mem_of_getElem? ha)
    have e2 : textB a = numB (a.size : Nat) ++ a.data.toList := rfl
    have h3 : (textB a).length = (numB (a.size : Nat)).length + a.size := by rw [e2, List.length_append]; rfl
    have hst : (l.flatMap strTs)[k * 1]? = some (.lit (.string a)) := by rw [Nat.mul_one]; exact str_at ha
    unfold textsB at hb
    have hc := num1_af (a.size : Nat) (inI_nat (by omega)) (by omega)
    clear h
    repeat (first | refine gG ?_ | refine zN1 (fun hlen => ?_) | refine zN2 (fun hlen => ?_))
    refine zIx k hk' ?_
    repeat (first | refine gG ?_ | refine zN1 (fun hlen => ?_) | refine zN2 (fun hlen => ?_))
    refine zEl1 (v := .lit (.string a)) hst ?_
    repeat (first | refine gG ?_ | refine zN1 (fun hlen => ?_) | refine zN2 (fun hlen => ?_))
    refine zCall (hc) ?_
    rintro _ rfl
    repeat (first | refine gG ?_ | refine zN1 (fun hlen => ?_) | refine zN2 (fun hlen => ?_))
    refine zCatb (numB (a.size : Nat)) a.data.toList (by have : a.data.toList.length = a.size := rfl; omega) ?_
    repeat (first | refine gG ?_ | refine zN1 (fun hlen => ?_) | refine zN2 (fun hlen => ?_))
    refine zCatb ((l.take k).flatMap textB) (textB a) (by omega) ?_
    repeat (first | refine gG ?_ | refine zN1 (fun hlen => ?_) | refine zN2 (fun hlen => ?_))
    exact ⟨k + 1, hk', by omega, x_wkd 0 ⟨rfl, by rw [hsn]; rfl, trivial⟩ rfl (by repeat (first | exact ag_refl | refine ag_upd rfl ?_ | refine ag_at rfl rfl ?_))⟩
  · have hk' : k = l.length := by have : ¬ k < l.length := by simpa using h
                                  omega
    subst hk'
    repeat (first | refine gG ?_ | refine zN1 (fun hlen => ?_) | refine zN2 (fun hlen => ?_))
    first | refine zR ?_ | refine zQ ?_
    rw [List.take_length]
    rfl
end Go.Proofs.YtllgibfmddihgaaDoor
namespace Go.Proofs.YtllgibfmddihgaaDoor
open Go.RowKit
theorem len_flat_le {α : Type} (f : α → List UInt8) (h : ∀ a, 1 ≤ (f a).length) : ∀ l : List α, l.length ≤ (l.flatMap f).length
  | [] => by simp
  | a :: l => by
    have := h a
    have := len_flat_le f h l
    simp only [List.flatMap_cons, List.length_append, List.length_cons]
    omega
theorem numB_pos (n : Int) : 1 ≤ (numB n).length := by simp [numB]
theorem textB_pos (s : ByteArray) : 1 ≤ (textB s).length := by have := numB_pos (s.size : Nat); simp only [textB, List.length_append]; omega
theorem Y.mark_pos : ∀ y : Y, 1 ≤ y.mark.length
  | .mk k n l => by have := numB_pos k; simp only [Y.mark, List.length_append]; omega
theorem V.mark_pos : ∀ y : V, 1 ≤ y.mark.length
  | .mk k n t l => by have := numB_pos k; simp only [V.mark, List.length_append]; omega
theorem Ex.mark_pos : ∀ y : Ex, 1 ≤ y.mark.length
  | .mk k n t ns ys l rs a => by have := numB_pos k; simp only [Ex.mark, List.length_append]; omega
theorem Ar.mark_pos : ∀ y : Ar, 1 ≤ y.mark.length
  | .mk p b => by have := p.mark_pos; simp only [Ar.mark, List.length_append]; omega
set_option maxRecDepth 100000 in
set_option maxHeartbeats 4000000 in
theorem typeMark_af (y : Y) : y.ok → y.mark.length ≤ 1099511627776 → AF Tryd.prog 34 [y.t] (· = .lit (.string (bs y.mark))) := by
  induction y using Y.ind with
  | h k n l ih =>
    intro hok hb
    simp only [Y.ok, Y.oks_iff] at hok
    have hm : (Y.mk k n l).mark = numsB [k, (l.length : Nat)] ++ textsB [n] ++ l.flatMap Y.mark := by simp [Y.mark, Y.marks_eq, numsB, textsB, List.append_assoc]
    rw [hm] at hb ⊢
    simp only [List.length_append] at hb
    have hll := len_flat_le Y.mark Y.mark_pos l
    have hN := nums_af [k, (l.length : Nat)] (List.forall_mem_cons.2 ⟨hok.1, (List.forall_mem_cons.2 ⟨inI_nat (by omega), (fun _ h => by simp at h)⟩)⟩) (by omega)
    have hT := texts_af [n] (by omega)
    have hC : ∀ a ∈ l, AF Tryd.prog 34 [a.t] (· = .lit (.string (bs a.mark))) := fun a ha => ih a ha (hok.2 a ha) (by have := mem_flat_le Y.mark ha; omega)
    clear hm hok ih hll
    generalize numsB [k, (l.length : Nat)] = p1 at *
    generalize textsB [n] = p2 at *
    refine af_enter tok Tryd.func34 Tryd.ntmps34 Tryd.results34 rfl (by kernel_rfl) rfl rfl fun F hX => ?_
    repeat (first | refine gG ?_ | refine zN1 (fun hlen => ?_) | refine zN2 (fun hlen => ?_) | refine zAl (fun _ => ?_) | refine zBf ?_)
    refine ac_draw [1, 1, 1, 1, 1, 1, 1, 1, 1, 1, 1, 1, 1] [0, 1, 2, 3, 4, 5, 6, 7, 8, 9, 10, 11, 12] (by kernel_rfl) (by kernel_rfl) ?_
    refine gW ?_
    apply w_q; (focus exact rfl); (focus exact rfl); focus (intro _; (refine lo_call hN rfl (by repeat (first | exact rzs_nil | apply rzs_cons | exact rz_c | exact rz_nil rfl | apply rz_agg | exact rz_own rfl | apply rz_fn | exact rz_ptr rfl | apply rz_tup)) ?_; rintro _ rfl); exact det_refl)
    refine gW ?_
    apply w_q; (focus exact rfl); (focus exact rfl); focus (intro _; (refine lo_call hT rfl (by repeat (first | exact rzs_nil | apply rzs_cons | exact rz_c | exact rz_nil rfl | apply rz_agg | exact rz_own rfl | apply rz_fn | exact rz_ptr rfl | apply rz_tup)) ?_; rintro _ rfl); exact det_refl)
    apply w_q; (focus exact rfl); (focus exact rfl); focus (intro _; (refine zCatb p1 p2 (by omega) ?_); exact det_refl)
    refine gW ?_
    refine w_nil ?_
    repeat (first | refine gG ?_ | refine zN1 (fun hlen => ?_) | refine zN2 (fun hlen => ?_) | refine zAl (fun _ => ?_) | refine zBf ?_)
    refine x_loop [3, 5, 21, 22, 23, 24, 25, 26, 27, 28, 29] (fun k : Nat => [(21, .c (.lit (.int .i64 (k : Nat)))), (3, .c (.lit (.string (bs (p1 ++ p2 ++ (l.take k).flatMap Y.mark)))))]) (fun _ => []) (fun k => k ≤ l.length) (fun k => l.length - k) 0 (Nat.zero_le _) ⟨rfl, congrArg (fun s => AV.c (.lit (.string s))) (bs_take0 Y.mark l (p1 ++ p2)).symm, trivial⟩ rfl ?_
    intro k hk
    repeat (first | refine gG ?_ | refine zN1 (fun hlen => ?_) | refine zN2 (fun hlen => ?_) | refine zAl (fun _ => ?_) | refine zBf ?_)
    refine x_cond rfl (fun h => ?_) (fun h => ?_)
    · have hk' : k < l.length := by simpa using h
      obtain ⟨a, ha⟩ := nth hk'
      have hc := hC a (List.mem_of_getElem? ha)
      have hsn := flat_snoc' Y.mark ha
      have h1 := take_flat_le Y.mark l k
      have h2 := mem_flat_le Y.mark (List.mem_of_getElem? ha)
      clear h
      repeat (first | refine gG ?_ | refine zN1 (fun hlen => ?_) | refine zN2 (fun hlen => ?_) | refine zAl (fun _ => ?_) | refine zBf ?_)
      refine zIx (k) (hk') ?_
      repeat (first | refine gG ?_ | refine zN1 (fun hlen => ?_) | refine zN2 (fun hlen => ?_) | refine zAl (fun _ => ?_) | refine zBx (fun _ => ?_))
      refine zEl (Y.at ha) (Y.ts_len a) ?_
      generalize Y.mark a = ma at *
      obtain ⟨ka, na, la⟩ := a
      repeat (first | refine gG ?_ | refine zN1 (fun hlen => ?_) | refine zN2 (fun hlen => ?_) | refine zAl (fun _ => ?_) | refine zBf ?_)
      refine zCall (hc) ?_
      rintro _ rfl
      repeat (first | refine gG ?_ | refine zN1 (fun hlen => ?_) | refine zN2 (fun hlen => ?_) | refine zAl (fun _ => ?_) | refine zBf ?_)
      refine zCatb (p1 ++ p2 ++ (l.take k).flatMap Y.mark) ma (by simp only [List.length_append]; omega) ?_
      repeat (first | refine gG ?_ | refine zN1 (fun hlen => ?_) | refine zN2 (fun hlen => ?_) | refine zAl (fun _ => ?_) | refine zBf ?_)
      exact ⟨k + 1, hk', by omega, x_wkd 0 ⟨rfl, by rw [hsn, ← List.append_assoc]; rfl, trivial⟩ rfl (by repeat (first | exact ag_refl | refine ag_upd rfl ?_ | refine ag_at rfl rfl ?_))⟩
    · have hk' : k = l.length := by
        have : ¬ k < l.length := by simpa using h
        omega
      subst hk'
      rw [List.take_length]
      clear h
      repeat (first | refine gG ?_ | refine zN1 (fun hlen => ?_) | refine zN2 (fun hlen => ?_) | refine zAl (fun _ => ?_) | refine zBf ?_)
      first | refine zR ?_ | refine zQ ?_
      rfl
set_option maxRecDepth 100000 in
set_option maxHeartbeats 4000000 in
theorem patMark_af (v : V) : v.ok → v.mark.length ≤ 1099511627776 → AF Tryd.prog 100 [v.t] (· = .lit (.string (bs v.mark))) := by
  induction v using V.ind with
  | h k n t l ih =>
    intro hok hb
    simp only [V.ok, V.oks_iff] at hok
    have hm : (V.mk k n t l).mark = numsB [k, n, (l.length : Nat)] ++ textsB [t] ++ l.flatMap V.mark := by simp [V.mark, V.marks_eq, numsB, textsB, List.append_assoc]
    rw [hm] at hb ⊢
    simp only [List.length_append] at hb
    have hll := len_flat_le V.mark V.mark_pos l
    have hN := nums_af [k, n, (l.length : Nat)] (List.forall_mem_cons.2 ⟨hok.1, (List.forall_mem_cons.2 ⟨hok.2.1, (List.forall_mem_cons.2 ⟨inI_nat (by omega), (fun _ h => by simp at h)⟩)⟩)⟩) (by omega)
    have hT := texts_af [t] (by omega)
    have hC : ∀ a ∈ l, AF Tryd.prog 100 [a.t] (· = .lit (.string (bs a.mark))) := fun a ha => ih a ha (hok.2.2 a ha) (by have := mem_flat_le V.mark ha; omega)
    clear hm hok ih hll
    generalize numsB [k, n, (l.length : Nat)] = p1 at *
    generalize textsB [t] = p2 at *
    refine af_enter tok Tryd.func100 Tryd.ntmps100 Tryd.results100 rfl (by kernel_rfl) rfl rfl fun F hX => ?_
    repeat (first | refine gG ?_ | refine zN1 (fun hlen => ?_) | refine zN2 (fun hlen => ?_) | refine zAl (fun _ => ?_) | refine zBf ?_)
    refine ac_draw [1, 1, 1, 1, 1, 1, 1, 1, 1, 1, 1, 1, 1, 1, 1] [0, 1, 2, 3, 4, 5, 6, 7, 8, 9, 10, 11, 12, 13, 14] (by kernel_rfl) (by kernel_rfl) ?_
    refine gW ?_
    apply w_q; (focus exact rfl); (focus exact rfl); focus (intro _; (refine lo_call hN rfl (by repeat (first | exact rzs_nil | apply rzs_cons | exact rz_c | exact rz_nil rfl | apply rz_agg | exact rz_own rfl | apply rz_fn | exact rz_ptr rfl | apply rz_tup)) ?_; rintro _ rfl); exact det_refl)
    refine gW ?_
    apply w_q; (focus exact rfl); (focus exact rfl); focus (intro _; (refine lo_call hT rfl (by repeat (first | exact rzs_nil | apply rzs_cons | exact rz_c | exact rz_nil rfl | apply rz_agg | exact rz_own rfl | apply rz_fn | exact rz_ptr rfl | apply rz_tup)) ?_; rintro _ rfl); exact det_refl)
    apply w_q; (focus exact rfl); (focus exact rfl); focus (intro _; (refine zCatb p1 p2 (by omega) ?_); exact det_refl)
    refine gW ?_
    refine w_nil ?_
    repeat (first | refine gG ?_ | refine zN1 (fun hlen => ?_) | refine zN2 (fun hlen => ?_) | refine zAl (fun _ => ?_) | refine zBf ?_)
    refine x_loop [3, 5, 23, 24, 25, 26, 27, 28, 29, 30, 31] (fun k : Nat => [(23, .c (.lit (.int .i64 (k : Nat)))), (3, .c (.lit (.string (bs (p1 ++ p2 ++ (l.take k).flatMap V.mark)))))]) (fun _ => []) (fun k => k ≤ l.length) (fun k => l.length - k) 0 (Nat.zero_le _) ⟨rfl, congrArg (fun s => AV.c (.lit (.string s))) (bs_take0 V.mark l (p1 ++ p2)).symm, trivial⟩ rfl ?_
    intro k hk
    repeat (first | refine gG ?_ | refine zN1 (fun hlen => ?_) | refine zN2 (fun hlen => ?_) | refine zAl (fun _ => ?_) | refine zBf ?_)
    refine x_cond rfl (fun h => ?_) (fun h => ?_)
    · have hk' : k < l.length := by simpa using h
      obtain ⟨a, ha⟩ := nth hk'
      have hc := hC a (List.mem_of_getElem? ha)
      have hsn := flat_snoc' V.mark ha
      have h1 := take_flat_le V.mark l k
      have h2 := mem_flat_le V.mark (List.mem_of_getElem? ha)
      clear h
      repeat (first | refine gG ?_ | refine zN1 (fun hlen => ?_) | refine zN2 (fun hlen => ?_) | refine zAl (fun _ => ?_) | refine zBf ?_)
      refine zIx (k) (hk') ?_
      repeat (first | refine gG ?_ | refine zN1 (fun hlen => ?_) | refine zN2 (fun hlen => ?_) | refine zAl (fun _ => ?_) | refine zBx (fun _ => ?_))
      refine zEl (V.at ha) (V.ts_len a) ?_
      generalize V.mark a = ma at *
      obtain ⟨ka, na, ta, la⟩ := a
      repeat (first | refine gG ?_ | refine zN1 (fun hlen => ?_) | refine zN2 (fun hlen => ?_) | refine zAl (fun _ => ?_) | refine zBf ?_)
      refine zCall (hc) ?_
      rintro _ rfl
      repeat (first | refine gG ?_ | refine zN1 (fun hlen => ?_) | refine zN2 (fun hlen => ?_) | refine zAl (fun _ => ?_) | refine zBf ?_)
      refine zCatb (p1 ++ p2 ++ (l.take k).flatMap V.mark) ma (by simp only [List.length_append]; omega) ?_
      repeat (first | refine gG ?_ | refine zN1 (fun hlen => ?_) | refine zN2 (fun hlen => ?_) | refine zAl (fun _ => ?_) | refine zBf ?_)
      exact ⟨k + 1, hk', by omega, x_wkd 0 ⟨rfl, by rw [hsn, ← List.append_assoc]; rfl, trivial⟩ rfl (by repeat (first | exact ag_refl | refine ag_upd rfl ?_ | refine ag_at rfl rfl ?_))⟩
    · have hk' : k = l.length := by
        have : ¬ k < l.length := by simpa using h
        omega
      subst hk'
      rw [List.take_length]
      clear h
      repeat (first | refine gG ?_ | refine zN1 (fun hlen => ?_) | refine zN2 (fun hlen => ?_) | refine zAl (fun _ => ?_) | refine zBf ?_)
      first | refine zR ?_ | refine zQ ?_
      rfl
set_option maxRecDepth 100000 in
set_option maxHeartbeats 4000000 in
theorem typesMark_af (l : List Y) (hok : ∀ a ∈ l, a.ok) (hb : (typesB l).length ≤ 1099511627776) : AF Tryd.prog 98 [Y.row l] (· = .lit (.string (bs (typesB l)))) := by
  have hm : typesB l = numB (l.length : Nat) ++ l.flatMap Y.mark := rfl
  rw [hm] at hb ⊢
  simp only [List.length_append] at hb
  have hll := len_flat_le Y.mark Y.mark_pos l
  have hN := num1_af (l.length : Nat) (inI_nat (by omega)) (by omega)
  have hC : ∀ a ∈ l, AF Tryd.prog 34 [a.t] (· = .lit (.string (bs a.mark))) := fun a ha => typeMark_af a (hok a ha) (by have := mem_flat_le Y.mark ha; omega)
  clear hm hok hll
  generalize numB (l.length : Nat) = p1 at *
  refine af_enter tok Tryd.func98 Tryd.ntmps98 Tryd.results98 rfl (by kernel_rfl) rfl rfl fun F hX => ?_
  repeat (first | refine gG ?_ | refine zN1 (fun hlen => ?_) | refine zN2 (fun hlen => ?_) | refine zAl (fun _ => ?_))
  refine zCall (hN) ?_
  rintro _ rfl
  repeat (first | refine gG ?_ | refine zN1 (fun hlen => ?_) | refine zN2 (fun hlen => ?_) | refine zAl (fun _ => ?_))
  refine x_loop [3, 5, 12, 13, 14, 15, 16, 17, 18, 19, 20] (fun k : Nat => [(12, .c (.lit (.int .i64 (k : Nat)))), (3, .c (.lit (.string (bs (p1 ++ (l.take k).flatMap Y.mark)))))]) (fun _ => []) (fun k => k ≤ l.length) (fun k => l.length - k) 0 (Nat.zero_le _) ⟨rfl, congrArg (fun s => AV.c (.lit (.string s))) (bs_take0 Y.mark l (p1)).symm, trivial⟩ rfl ?_
  intro k hk
  repeat (first | refine gG ?_ | refine zN1 (fun hlen => ?_) | refine zN2 (fun hlen => ?_) | refine zAl (fun _ => ?_))
  refine x_cond rfl (fun h => ?_) (fun h => ?_)
  · have hk' : k < l.length := by simpa using h
    obtain ⟨a, ha⟩ := nth hk'
    have hc := hC a (List.mem_of_getElem? ha)
    have hsn := flat_snoc' Y.mark ha
    have h1 := take_flat_le Y.mark l k
    have h2 := mem_flat_le Y.mark (List.mem_of_getElem? ha)
    clear h
    repeat (first | refine gG ?_ | refine zN1 (fun hlen => ?_) | refine zN2 (fun hlen => ?_) | refine zAl (fun _ => ?_))
    refine zIx (k) (hk') ?_
    repeat (first | refine gG ?_ | refine zN1 (fun hlen => ?_) | refine zN2 (fun hlen => ?_) | refine zAl (fun _ => ?_))
    refine zEl (Y.at ha) (Y.ts_len a) ?_
    generalize Y.mark a = ma at *
    obtain ⟨ka, na, la⟩ := a
    repeat (first | refine gG ?_ | refine zN1 (fun hlen => ?_) | refine zN2 (fun hlen => ?_) | refine zAl (fun _ => ?_))
    refine zCall (hc) ?_
    rintro _ rfl
    repeat (first | refine gG ?_ | refine zN1 (fun hlen => ?_) | refine zN2 (fun hlen => ?_) | refine zAl (fun _ => ?_))
    refine zCatb (p1 ++ (l.take k).flatMap Y.mark) ma (by simp only [List.length_append]; omega) ?_
    repeat (first | refine gG ?_ | refine zN1 (fun hlen => ?_) | refine zN2 (fun hlen => ?_) | refine zAl (fun _ => ?_))
    exact ⟨k + 1, hk', by omega, x_wkd 0 ⟨rfl, by rw [hsn, ← List.append_assoc]; rfl, trivial⟩ rfl (by repeat (first | exact ag_refl | refine ag_upd rfl ?_ | refine ag_at rfl rfl ?_))⟩
  · have hk' : k = l.length := by
      have : ¬ k < l.length := by simpa using h
      omega
    subst hk'
    rw [List.take_length]
    clear h
    repeat (first | refine gG ?_ | refine zN1 (fun hlen => ?_) | refine zN2 (fun hlen => ?_) | refine zAl (fun _ => ?_))
    first | refine zR ?_ | refine zQ ?_
    rfl
set_option maxRecDepth 100000 in
set_option maxHeartbeats 4000000 in
theorem namesMark_af (l : List ByteArray) (hb : (namesB l).length ≤ 1099511627776) : AF Tryd.prog 97 [strRow l] (· = .lit (.string (bs (namesB l)))) := by
  have hm : namesB l = numB (l.length : Nat) ++ textsB l := rfl
  rw [hm] at hb ⊢
  simp only [List.length_append] at hb
  have hll := len_flat_le textB textB_pos l
  have hN := num1_af (l.length : Nat) (inI_nat (by have : (l.flatMap textB).length = (textsB l).length := rfl; omega)) (by omega)
  have hT := texts_af l (by omega)
  clear hm hll
  generalize numB (l.length : Nat) = p1 at *
  generalize textsB l = p2 at *
  refine af_enter tok Tryd.func97 Tryd.ntmps97 Tryd.results97 rfl (by kernel_rfl) rfl rfl fun F hX => ?_
  repeat (first | refine gG ?_ | refine zN1 (fun hlen => ?_) | refine zN2 (fun hlen => ?_))
  refine zCall (hN) ?_
  rintro _ rfl
  repeat (first | refine gG ?_ | refine zN1 (fun hlen => ?_) | refine zN2 (fun hlen => ?_))
  refine zCall (hT) ?_
  rintro _ rfl
  repeat (first | refine gG ?_ | refine zN1 (fun hlen => ?_) | refine zN2 (fun hlen => ?_))
  refine zCatb p1 p2 (by omega) ?_
  repeat (first | refine gG ?_ | refine zN1 (fun hlen => ?_) | refine zN2 (fun hlen => ?_))
  first | refine zR ?_ | refine zQ ?_
  rfl
end Go.Proofs.YtllgibfmddihgaaDoor
namespace Go.Proofs.YtllgibfmddihgaaDoor
open Go.RowKit
set_option maxRecDepth 100000 in
set_option maxHeartbeats 4000000 in
theorem exprMark_af (e : Ex) : e.ok → e.mark.length ≤ 1099511627776 → AF Tryd.prog 14 [e.t] (· = .lit (.string (bs e.mark))) := by
  induction e using Ex.ind with
  | h kd n t ns ys l rs pos ih ihr =>
    intro hok hb
    simp only [Ex.ok, Y.oks_iff, Ex.oks_iff, Ar.oks_iff] at hok
    obtain ⟨o1, o2, o3, o4, o5, o6⟩ := hok
    have hm : (Ex.mk kd n t ns ys l rs pos).mark = numsB [kd, n, (ns.length : Nat), (ys.length : Nat), (l.length : Nat), (rs.length : Nat)] ++ textsB [t] ++ textsB ns ++ ys.flatMap Y.mark ++ l.flatMap Ex.mark ++ rs.flatMap Ar.mark := by simp [Ex.mark, Ex.marks_eq, Ar.marks_eq, numsB, textsB, List.append_assoc]
    rw [hm] at hb ⊢
    simp only [List.length_append] at hb
    have hl1 := len_flat_le textB textB_pos ns
    have hl2 := len_flat_le Y.mark Y.mark_pos ys
    have hl3 := len_flat_le Ex.mark Ex.mark_pos l
    have hl4 := len_flat_le Ar.mark Ar.mark_pos rs
    have ht : (ns.flatMap textB).length = (textsB ns).length := rfl
    have hN := nums_af [kd, n, (ns.length : Nat), (ys.length : Nat), (l.length : Nat), (rs.length : Nat)] (List.forall_mem_cons.2 ⟨o1, (List.forall_mem_cons.2 ⟨o2, (List.forall_mem_cons.2 ⟨inI_nat (by omega), (List.forall_mem_cons.2 ⟨inI_nat (by omega), (List.forall_mem_cons.2 ⟨inI_nat (by omega), (List.forall_mem_cons.2 ⟨inI_nat (by omega), (fun _ h => by simp at h)⟩)⟩)⟩)⟩)⟩)⟩) (by omega)
    have hT := texts_af [t] (by omega)
    have hT2 := texts_af ns (by omega)
    have hC1 : ∀ a ∈ ys, AF Tryd.prog 34 [a.t] (· = .lit (.string (bs a.mark))) := fun a ha => typeMark_af a (o3 a ha) (by have := mem_flat_le Y.mark ha; omega)
    have hC2 : ∀ a ∈ l, AF Tryd.prog 14 [a.t] (· = .lit (.string (bs a.mark))) := fun a ha => ih a ha (o4 a ha) (by have := mem_flat_le Ex.mark ha; omega)
    have hC3 : ∀ (p : V) (b : Ex), Ar.mk p b ∈ rs → AF Tryd.prog 100 [p.t] (· = .lit (.string (bs p.mark))) ∧ AF Tryd.prog 14 [b.t] (· = .lit (.string (bs b.mark))) := fun p b hp => by
      have h1 := mem_flat_le Ar.mark hp
      have h2 : (Ar.mk p b).mark = p.mark ++ b.mark := by rw [Ar.mark]
      rw [h2, List.length_append] at h1
      have h3 := o5 _ hp
      simp only [Ar.ok] at h3
      exact ⟨patMark_af p h3.1 (by omega), ihr _ hp p b rfl h3.2 (by omega)⟩
    clear hm ih ihr hl1 hl2 hl3 hl4 ht o1 o2 o3 o4 o5 o6
    generalize numsB [kd, n, (ns.length : Nat), (ys.length : Nat), (l.length : Nat), (rs.length : Nat)] = p1 at *
    generalize textsB [t] = p2 at *
    generalize textsB ns = p3 at *
    refine af_enter tok Tryd.func14 Tryd.ntmps14 Tryd.results14 rfl (by kernel_rfl) rfl rfl fun F hX => ?_
    repeat (first | refine gG ?_ | refine zN1 (fun hlen => ?_) | refine zN2 (fun hlen => ?_) | refine zAl (fun _ => ?_) | refine zBf ?_)
    refine ac_draw [1, 1, 1, 1, 1, 1, 1, 1, 1, 1, 1, 1, 1, 1, 1, 1, 1, 1, 1, 1, 1, 1, 1, 1, 1, 1, 1, 1] [0, 1, 2, 3, 4, 5, 6, 7, 8, 9, 10, 11, 12, 13, 14, 15, 16, 17, 18, 19, 20, 21, 22, 23, 24, 25, 26, 27] (by kernel_rfl) (by kernel_rfl) ?_
    refine gW ?_
    apply w_q; (focus exact rfl); (focus exact rfl); focus (intro _; (refine lo_call hN rfl (by repeat (first | exact rzs_nil | apply rzs_cons | exact rz_c | exact rz_nil rfl | apply rz_agg | exact rz_own rfl | apply rz_fn | exact rz_ptr rfl | apply rz_tup)) ?_; rintro _ rfl); exact det_refl)
    refine gW ?_
    apply w_q; (focus exact rfl); (focus exact rfl); focus (intro _; (refine lo_call hT rfl (by repeat (first | exact rzs_nil | apply rzs_cons | exact rz_c | exact rz_nil rfl | apply rz_agg | exact rz_own rfl | apply rz_fn | exact rz_ptr rfl | apply rz_tup)) ?_; rintro _ rfl); exact det_refl)
    apply w_q; (focus exact rfl); (focus exact rfl); focus (intro _; (refine zCatb p1 p2 (by omega) ?_); exact det_refl)
    refine gW ?_
    apply w_q; (focus exact rfl); (focus exact rfl); focus (intro _; (refine lo_call hT2 rfl (by repeat (first | exact rzs_nil | apply rzs_cons | exact rz_c | exact rz_nil rfl | apply rz_agg | exact rz_own rfl | apply rz_fn | exact rz_ptr rfl | apply rz_tup)) ?_; rintro _ rfl); exact det_refl)
    apply w_q; (focus exact rfl); (focus exact rfl); focus (intro _; (refine zCatb (p1 ++ p2) p3 (by simp only [List.length_append]; omega) ?_); exact det_refl)
    refine gW ?_
    refine w_nil ?_
    repeat (first | refine gG ?_ | refine zN1 (fun hlen => ?_) | refine zN2 (fun hlen => ?_) | refine zAl (fun _ => ?_) | refine zBf ?_)
    refine x_loop [3, 5, 40, 41, 42, 43, 44, 45, 46, 47, 48] (fun k : Nat => [(40, .c (.lit (.int .i64 (k : Nat)))), (3, .c (.lit (.string (bs (p1 ++ p2 ++ p3 ++ (ys.take k).flatMap Y.mark)))))]) (fun _ => []) (fun k => k ≤ ys.length) (fun k => ys.length - k) 0 (Nat.zero_le _) ⟨rfl, congrArg (fun s => AV.c (.lit (.string s))) (bs_take0 Y.mark ys (p1 ++ p2 ++ p3)).symm, trivial⟩ rfl ?_
    intro k hk
    repeat (first | refine gG ?_ | refine zN1 (fun hlen => ?_) | refine zN2 (fun hlen => ?_) | refine zAl (fun _ => ?_) | refine zBf ?_)
    refine x_cond rfl (fun h => ?_) (fun h => ?_)
    · have hk' : k < ys.length := by simpa using h
      obtain ⟨a, ha⟩ := nth hk'
      have hc := hC1 a (List.mem_of_getElem? ha)
      have hsn := flat_snoc' Y.mark ha
      have h1 := take_flat_le Y.mark ys k
      have h2 := mem_flat_le Y.mark (List.mem_of_getElem? ha)
      clear h
      repeat (first | refine gG ?_ | refine zN1 (fun hlen => ?_) | refine zN2 (fun hlen => ?_) | refine zAl (fun _ => ?_) | refine zBf ?_)
      refine zIx (k) (hk') ?_
      repeat (first | refine gG ?_ | refine zN1 (fun hlen => ?_) | refine zN2 (fun hlen => ?_) | refine zAl (fun _ => ?_) | refine zBx (fun _ => ?_))
      refine zEl (Y.at ha) (Y.ts_len a) ?_
      generalize Y.mark a = ma at *
      obtain ⟨ka, na, la⟩ := a
      repeat (first | refine gG ?_ | refine zN1 (fun hlen => ?_) | refine zN2 (fun hlen => ?_) | refine zAl (fun _ => ?_) | refine zBf ?_)
      refine zCall (hc) ?_
      rintro _ rfl
      repeat (first | refine gG ?_ | refine zN1 (fun hlen => ?_) | refine zN2 (fun hlen => ?_) | refine zAl (fun _ => ?_) | refine zBf ?_)
      refine zCatb (p1 ++ p2 ++ p3 ++ (ys.take k).flatMap Y.mark) ma (by simp only [List.length_append]; omega) ?_
      repeat (first | refine gG ?_ | refine zN1 (fun hlen => ?_) | refine zN2 (fun hlen => ?_) | refine zAl (fun _ => ?_) | refine zBf ?_)
      exact ⟨k + 1, hk', by omega, x_wkd 0 ⟨rfl, by rw [hsn, ← List.append_assoc]; rfl, trivial⟩ rfl (by repeat (first | exact ag_refl | refine ag_upd rfl ?_ | refine ag_at rfl rfl ?_))⟩
    · have hk' : k = ys.length := by
        have : ¬ k < ys.length := by simpa using h
        omega
      subst hk'
      rw [List.take_length]
      clear h
      repeat (first | refine gG ?_ | refine zN1 (fun hlen => ?_) | refine zN2 (fun hlen => ?_) | refine zAl (fun _ => ?_) | refine zBf ?_)
      refine x_loop [3, 7, 52, 53, 54, 55, 56, 57, 58, 59, 60] (fun k : Nat => [(52, .c (.lit (.int .i64 (k : Nat)))), (3, .c (.lit (.string (bs (p1 ++ p2 ++ p3 ++ ys.flatMap Y.mark ++ (l.take k).flatMap Ex.mark)))))]) (fun _ => []) (fun k => k ≤ l.length) (fun k => l.length - k) 0 (Nat.zero_le _) ⟨rfl, congrArg (fun s => AV.c (.lit (.string s))) (bs_take0 Ex.mark l (p1 ++ p2 ++ p3 ++ ys.flatMap Y.mark)).symm, trivial⟩ rfl ?_
      intro k hk
      repeat (first | refine gG ?_ | refine zN1 (fun hlen => ?_) | refine zN2 (fun hlen => ?_) | refine zAl (fun _ => ?_) | refine zBf ?_)
      refine x_cond rfl (fun h => ?_) (fun h => ?_)
      · have hk' : k < l.length := by simpa using h
        obtain ⟨a, ha⟩ := nth hk'
        have hc := hC2 a (List.mem_of_getElem? ha)
        have hsn := flat_snoc' Ex.mark ha
        have h1 := take_flat_le Ex.mark l k
        have h2 := mem_flat_le Ex.mark (List.mem_of_getElem? ha)
        clear h
        repeat (first | refine gG ?_ | refine zN1 (fun hlen => ?_) | refine zN2 (fun hlen => ?_) | refine zAl (fun _ => ?_) | refine zBf ?_)
        refine zIx (k) (hk') ?_
        repeat (first | refine gG ?_ | refine zN1 (fun hlen => ?_) | refine zN2 (fun hlen => ?_) | refine zAl (fun _ => ?_) | refine zBx (fun _ => ?_))
        refine zEl (Ex.at ha) (Ex.ts_len a) ?_
        generalize Ex.mark a = ma at *
        obtain ⟨ka, na, ta, nsa, ysa, la, rsa, pa⟩ := a
        repeat (first | refine gG ?_ | refine zN1 (fun hlen => ?_) | refine zN2 (fun hlen => ?_) | refine zAl (fun _ => ?_) | refine zBf ?_)
        refine zCall (hc) ?_
        rintro _ rfl
        repeat (first | refine gG ?_ | refine zN1 (fun hlen => ?_) | refine zN2 (fun hlen => ?_) | refine zAl (fun _ => ?_) | refine zBf ?_)
        refine zCatb (p1 ++ p2 ++ p3 ++ ys.flatMap Y.mark ++ (l.take k).flatMap Ex.mark) ma (by simp only [List.length_append]; omega) ?_
        repeat (first | refine gG ?_ | refine zN1 (fun hlen => ?_) | refine zN2 (fun hlen => ?_) | refine zAl (fun _ => ?_) | refine zBf ?_)
        exact ⟨k + 1, hk', by omega, x_wkd 0 ⟨rfl, by rw [hsn, ← List.append_assoc]; rfl, trivial⟩ rfl (by repeat (first | exact ag_refl | refine ag_upd rfl ?_ | refine ag_at rfl rfl ?_))⟩
      · have hk' : k = l.length := by
          have : ¬ k < l.length := by simpa using h
          omega
        subst hk'
        rw [List.take_length]
        clear h
        repeat (first | refine gG ?_ | refine zN1 (fun hlen => ?_) | refine zN2 (fun hlen => ?_) | refine zAl (fun _ => ?_) | refine zBf ?_)
        refine x_loop [3, 9, 64, 65, 66, 67, 68, 69, 70, 71, 72, 73, 74, 75, 76, 77] (fun k : Nat => [(64, .c (.lit (.int .i64 (k : Nat)))), (3, .c (.lit (.string (bs (p1 ++ p2 ++ p3 ++ ys.flatMap Y.mark ++ l.flatMap Ex.mark ++ (rs.take k).flatMap Ar.mark)))))]) (fun _ => []) (fun k => k ≤ rs.length) (fun k => rs.length - k) 0 (Nat.zero_le _) ⟨rfl, congrArg (fun s => AV.c (.lit (.string s))) (bs_take0 Ar.mark rs (p1 ++ p2 ++ p3 ++ ys.flatMap Y.mark ++ l.flatMap Ex.mark)).symm, trivial⟩ rfl ?_
        intro k hk
        repeat (first | refine gG ?_ | refine zN1 (fun hlen => ?_) | refine zN2 (fun hlen => ?_) | refine zAl (fun _ => ?_) | refine zBf ?_)
        refine x_cond rfl (fun h => ?_) (fun h => ?_)
        · have hk' : k < rs.length := by simpa using h
          obtain ⟨a, ha⟩ := nth hk'
          have hmem := List.mem_of_getElem? ha
          have hsn := flat_snoc' Ar.mark ha
          have h1 := take_flat_le Ar.mark rs k
          have h2 := mem_flat_le Ar.mark hmem
          clear h
          repeat (first | refine gG ?_ | refine zN1 (fun hlen => ?_) | refine zN2 (fun hlen => ?_) | refine zAl (fun _ => ?_) | refine zBf ?_)
          refine zIx (k) (hk') ?_
          repeat (first | refine gG ?_ | refine zN1 (fun hlen => ?_) | refine zN2 (fun hlen => ?_) | refine zAl (fun _ => ?_) | refine zBx (fun _ => ?_))
          refine zEl (Ar.at ha) (Ar.ts_len a) ?_
          obtain ⟨pt, bd⟩ := a
          have hE : Ar.mark (.mk pt bd) = pt.mark ++ bd.mark := by rw [Ar.mark]
          rw [hE] at hsn h2
          simp only [List.length_append] at h2
          have c_q1 := (hC3 pt bd hmem).1
          have c_q2 := (hC3 pt bd hmem).2
          clear hE hmem ha
          generalize pt.mark = q1 at *
          generalize bd.mark = q2 at *
          obtain ⟨kp, np, tp, lp⟩ := pt
          obtain ⟨ka, na, ta, nsa, ysa, la, rsa, pa⟩ := bd
          have hfin : (p1 ++ p2 ++ p3 ++ ys.flatMap Y.mark ++ l.flatMap Ex.mark ++ (rs.take k).flatMap Ar.mark) ++ (q1 ++ q2) = p1 ++ p2 ++ p3 ++ ys.flatMap Y.mark ++ l.flatMap Ex.mark ++ (rs.take (k + 1)).flatMap Ar.mark := by rw [hsn]; simp only [List.append_assoc]
          repeat (first | refine gG ?_ | refine zN1 (fun hlen => ?_) | refine zN2 (fun hlen => ?_) | refine zAl (fun _ => ?_) | refine zBf ?_)
          refine ac_draw [1, 1, 1, 1, 1, 1, 1, 1, 1, 1] [0, 1, 2, 3, 4, 5, 6, 7, 8, 9] (by kernel_rfl) (by kernel_rfl) ?_
          refine gW ?_
          apply w_q; (focus exact rfl); (focus exact rfl); focus (intro _; (refine lo_call c_q1 rfl (by repeat (first | exact rzs_nil | apply rzs_cons | exact rz_c | exact rz_nil rfl | apply rz_agg | exact rz_own rfl | apply rz_fn | exact rz_ptr rfl | apply rz_tup)) ?_; rintro _ rfl); exact det_refl)
          refine gW ?_
          apply w_q; (focus exact rfl); (focus exact rfl); focus (intro _; (refine lo_call c_q2 rfl (by repeat (first | exact rzs_nil | apply rzs_cons | exact rz_c | exact rz_nil rfl | apply rz_agg | exact rz_own rfl | apply rz_fn | exact rz_ptr rfl | apply rz_tup)) ?_; rintro _ rfl); exact det_refl)
          apply w_q; (focus exact rfl); (focus exact rfl); focus (intro _; (refine zCatb (q1) (q2) (by first | omega | (simp only [List.length_append]; omega)) ?_); exact det_refl)
          apply w_q; (focus exact rfl); (focus exact rfl); focus (intro _; (refine zCatb (p1 ++ p2 ++ p3 ++ ys.flatMap Y.mark ++ l.flatMap Ex.mark ++ (rs.take k).flatMap Ar.mark) (q1 ++ q2) (by first | omega | (simp only [List.length_append]; omega)) ?_); exact det_refl)
          refine gW ?_
          refine w_nil ?_
          repeat (first | refine gG ?_ | refine zN1 (fun hlen => ?_) | refine zN2 (fun hlen => ?_) | refine zAl (fun _ => ?_) | refine zBf ?_)
          exact ⟨k + 1, hk', by omega, x_wkd 0 ⟨rfl, by rw [← hfin]; rfl, trivial⟩ rfl (by repeat (first | exact ag_refl | refine ag_upd rfl ?_ | refine ag_at rfl rfl ?_))⟩
        · have hk' : k = rs.length := by
            have : ¬ k < rs.length := by simpa using h
            omega
          subst hk'
          rw [List.take_length]
          clear h
          repeat (first | refine gG ?_ | refine zN1 (fun hlen => ?_) | refine zN2 (fun hlen => ?_) | refine zAl (fun _ => ?_) | refine zBf ?_)
          first | refine zR ?_ | refine zQ ?_
          rfl
end Go.Proofs.YtllgibfmddihgaaDoor
