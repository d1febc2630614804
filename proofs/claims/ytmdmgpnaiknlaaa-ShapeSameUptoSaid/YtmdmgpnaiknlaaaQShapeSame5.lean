/-
  Texts of this proof, part 5: Ab18 Ab19 Ab26 Tv Tvp Tsm Ty Tex Tsc.
-/
import Derived.Test.YtmdmgpnaiknlaaaQShapeSame4
import Derived.Lib.AppendStr
import Derived.Lib.AppendZerosOnto
import Derived.Lib.MinMax
import Derived.MapKept
namespace Go.Proofs.Ytmdmgpnaiknlaaa
open Go.RowKit
/-- keys of a kind, told by what they stand for -/
structure KeyIs {α : Type} (dk : TypeDesc) (κ : α → Value) : Prop where
  is : ∀ a, MapKept.IsKey dk (κ a)
  inj : ∀ a b, κ a = κ b → a = b
theorem keyStr : KeyIs .string Value.string := ⟨fun _ => trivial, fun _ _ h => by injection h⟩
section
variable {α : Type} [DecidableEq α]
def mkeys (κ : α → Value) (l : List (α × T)) : List (Value × T) := l.map fun p => (κ p.1, p.2)
def mget (k : α) : List (α × T) → Option T
  | [] => none
  | (k', t) :: l => if k = k' then some t else mget k l
def mput (k : α) (t : T) : List (α × T) → List (α × T)
  | [] => [(k, t)]
  | (k', t') :: l => if k = k' then (k, t) :: l else (k', t') :: mput k t l
theorem mget_put (k k' : α) (t : T) : ∀ l : List (α × T), mget k (mput k' t l) = if k = k' then some t else mget k l
  | [] => by simp [mput, mget]
  | (k2, t2) :: l => by
    simp only [mput]
    by_cases h : k' = k2
    · subst h
      simp only [if_true, mget]
      split <;> rfl
    · simp only [if_neg h, mget, mget_put k k' t l]
      by_cases h2 : k = k2
      · subst h2
        simp [Ne.symm h]
      · simp [h2]
theorem find_keys {dk : TypeDesc} {κ : α → Value} (hκ : KeyIs dk κ) (k : α) : ∀ (l : List (α × T)) (es : List MapEntry) (i : Nat), es.map (·.key) = l.map (fun p => κ p.1) →
    (Instr.findNow dk (κ k) es i = some none ∧ mget k l = none ∧ ∀ t, mput k t l = l ++ [(k, t)]) ∨
    ∃ j e t, Instr.findNow dk (κ k) es i = some (some (i + j, e.val)) ∧ es[j]? = some e ∧ l[j]? = some (k, t) ∧ mget k l = some t ∧ ∀ t', mput k t' l = l.set j (k, t')
  | [], es, i, h => by
    obtain rfl : es = [] := by simpa using h
    exact .inl ⟨rfl, rfl, fun _ => rfl⟩
  | (k', t') :: l, [], i, h => by simp at h
  | (k', t') :: l, e :: es, i, h => by
    simp only [List.map_cons, List.cons.injEq] at h
    obtain ⟨r, hr, hiff⟩ := MapKept.sameNow_of_keys (hκ.is k) (by rw [h.1]; exact hκ.is k' : MapKept.IsKey dk e.key)
    rw [h.1] at hiff
    by_cases hk : k = k'
    · subst hk
      obtain rfl : r = true := hiff.2 rfl
      exact .inr ⟨0, e, t', by simp [Instr.findNow, hr], rfl, rfl, by simp [mget], fun t => by simp [mput]⟩
    · have hrf : r = false := by
        cases r with
        | false => rfl
        | true => exact absurd (hκ.inj _ _ (hiff.1 rfl)) hk
      subst hrf
      rcases find_keys hκ k l es (i + 1) h.2 with ⟨h1, h2, h3⟩ | ⟨j, e', t, h1, h2, h3, h4, h5⟩
      · exact .inl ⟨by simp [Instr.findNow, hr, h1], by simp [mget, hk, h2], fun t => by simp [mput, hk, h3]⟩
      · exact .inr ⟨j + 1, e', t, by simp [Instr.findNow, hr, h1]; omega, by simpa using h2, by simpa using h3, by simp [mget, hk, h4], fun t => by simp [mput, hk, h5]⟩
end
theorem sameBits_key {dk : TypeDesc} {v : Value} (h : MapKept.IsKey dk v) (n : Nat) : Instr.sameBits n v v = true := by
  cases dk <;> cases v <;> simp_all [MapKept.IsKey, Instr.sameBits, MapKept.bytes_beq]
theorem run_stays {P : Program} {dk : TypeDesc} {v : Value} (h : MapKept.IsKey dk v) (w : World) : (Instr.keyThatStays v v).run P w = .ok v w := by
  unfold Instr.keyThatStays
  rw [if_pos (sameBits_key h _)]
  rfl
section
variable {P : Program} {F : Frm} {L : Tab} {d : Option Tmp} {ty : TypeId} {pos : String} {aft : Array Edge} {g : Option (Nat × Bool)} {ρ : Operand → AV} {hp : List Blk} {K : AV → List Blk → Prop}
theorem lo_makeMap {t : TypeId} (h : ∀ b, K (.own hp.length (.map (some b))) (hp ++ [.mp b []])) : LO P F ⟨d, .makeMap t none, ty, pos, aft, g⟩ ρ hp K := by
  refine ⟨fun M e w he hh => ?_⟩
  have : (execOp e ⟨d, .makeMap t none, ty, pos, aft, g⟩).run P w = .ok (.value (.map (some w.heap.size))) (w.alloc (.map #[] 0)) := by
    have hm : (Instr.makeMap t none).run P w = .ok (.map (some w.heap.size)) (w.alloc (.map #[] 0)) := rfl
    simp [execOp, hm]
  rw [this]
  refine ⟨M, _, _, h w.heap.size, Ext.refl _ _, ?_, by simp only [RA]; exact ⟨trivial, rfl⟩⟩
  refine hh.step hp.length rfl rfl rfl (by simp) (fun b hb _ => Below.heap_alloc _ _ _ hb) (Ext.refl _ _) (fun p v h1 h2 => by rw [h2] at h1; cases h1) (fun j hj => ?_) (fun x' hx' => ?_)
  · rcases Nat.lt_or_ge j hp.length with h | h
    · rw [List.getElem?_append_left h]
    · rw [List.getElem?_eq_none (by simp; omega), List.getElem?_eq_none (by omega)]
  · have : x' = .mp w.heap.size [] := by simpa using hx'.symm
    subst this
    refine ⟨⟨[], 0, heap_alloc_new w _, rfl, by simp [RTs], ⟨List.nodup_nil, fun _ h => by cases h⟩, fun _ h => by cases h⟩, fun b hb => .inr ?_⟩
    obtain rfl : w.heap.size = b := by simpa [Blk.blk] using hb
    refine ⟨Nat.le_refl _, fun p hp => ?_⟩
    cases hc : M p with
    | none => rfl
    | some v => have := World.block_lt_of_cell? w p (hh.mem p v hc).1; omega
variable {α : Type} [DecidableEq α] {κ : α → Value} {dk : TypeDesc} {xT kT eT : TypeId} {x y z : Operand} {i b : Nat} {l : List (α × T)} {k : α} {te : TI} {z0 : Value} {o : Option (List Nat × Nat)}
theorem lo_lookup (hκ : KeyIs dk κ) (hL : TabOk P L) (hu : P.underlying xT = some (.map kT eT)) (hk : P.underlying kT = some dk) (hte : L.look eT = some te) (hz : te.zero = [z0]) (ha : te.agg = false) (hx : ρ x = .own i (.map (some b))) (hi : hp[i]? = some (.mpx b (mkeys κ l) o)) (hy : ρ y = .c (.lit (κ k)))
    (h : K (.c ((mget k l).getD (.lit z0))) hp) : LO P F ⟨d, .lookup xT x y false, ty, pos, aft, g⟩ ρ hp K := by
  refine LO.same (fun M e w he hh => ?_) h
  have h1 := he x (by first | (simp [Op.operands]; done) | simp [Op.operands, Call.operands])
  rw [hx] at h1
  simp only [RA] at h1
  have h2 := he y (by first | (simp [Op.operands]; done) | simp [Op.operands, Call.operands])
  rw [hy] at h2
  simp only [RA, RT] at h2
  obtain ⟨es, clock, hb, hkeys, hvals, hstm, hst⟩ := hh.at_ i _ hi
  have hkeys' : es.map (·.key) = l.map (fun p => κ p.1) := by rw [hkeys]; simp [mkeys]
  have hvals' : RTs M (l.map (·.2)) (es.map (·.val)) := by simpa [mkeys, Function.comp_def] using hvals
  rcases find_keys hκ k l es 0 hkeys' with ⟨f1, f2, _⟩ | ⟨j, e', t, f1, f2, f3, f4, _⟩
  · obtain ⟨inf, zv, g1, _, _, g2, g3, g4, g5⟩ := hL.info hte
    have hzv : zv = z0 := by
      rw [ha] at g5
      rw [hz] at g3
      cases zv <;> simp_all [Value.cells]
    have hzr : (zeroValue eT).run P w = .ok z0 w := by simp [zeroValue, typeInfo, g1, g2, hzv]
    refine ⟨z0, ?_, by rw [f2]; simp only [Option.getD_none, RA, RT]⟩
    simp [execOp, Instr.lookup, h1.1, h2, run_underlying hu, MapKept.run_getObj_map hb, MapKept.run_checkKey hk (hκ.is k), MapKept.run_findKey hk f1, hzr]
  · obtain ⟨u, hu1, hu2⟩ := hvals'.get (j := j) (t := t) (by rw [List.getElem?_map, f3]; rfl)
    rw [List.getElem?_map, f2] at hu1
    obtain rfl : e'.val = u := by simpa using hu1
    refine ⟨e'.val, ?_, by rw [f4]; simpa only [Option.getD_some, RA] using hu2⟩
    simp [execOp, Instr.lookup, h1.1, h2, run_underlying hu, MapKept.run_getObj_map hb, MapKept.run_checkKey hk (hκ.is k), MapKept.run_findKey hk f1]
theorem set_modify (es : List MapEntry) (j : Nat) (f : MapEntry → MapEntry) {e : MapEntry} (h : es[j]? = some e) : es.modify j f = es.set j (f e) := by
  apply List.ext_getElem?
  intro q
  rw [List.getElem?_modify, List.getElem?_set]
  by_cases hq : j = q
  · subst hq
    obtain ⟨h1, h2⟩ := List.getElem?_eq_some_iff.1 h
    simp [h1, h2]
  · simp [hq]
theorem lo_mapUpdate (hκ : KeyIs dk κ) {t : T} (hu : P.underlying xT = some (.map kT eT)) (hk : P.underlying kT = some dk) (hx : ρ x = .own i (.map (some b))) (hi : hp[i]? = some (.mpx b (mkeys κ l) o)) (hy : ρ y = .c (.lit (κ k))) (hz : ∀ M u, RA M (ρ z) u → RT M t u)
    (ho : o = none ∨ (mget k l).isSome = true) (h : K (.c (.lit undef)) (hp.set i (.mpx b (mkeys κ (mput k t l)) o))) : LO P F ⟨d, .mapUpdate xT x y z, ty, pos, aft, g⟩ ρ hp K := by
  refine ⟨fun M e w he hh => ?_⟩
  have h1 := he x (by first | (simp [Op.operands]; done) | simp [Op.operands, Call.operands])
  rw [hx] at h1
  simp only [RA] at h1
  have h2 := he y (by first | (simp [Op.operands]; done) | simp [Op.operands, Call.operands])
  rw [hy] at h2
  simp only [RA, RT] at h2
  have h3 := hz M _ (he z (by first | (simp [Op.operands]; done) | simp [Op.operands, Call.operands]))
  obtain ⟨es, clock, hb, hkeys, hvals, hstm, hst⟩ := hh.at_ i _ hi
  have hkeys' : es.map (·.key) = l.map (fun p => κ p.1) := by rw [hkeys]; simp [mkeys]
  have hvals' : RTs M (l.map (·.2)) (es.map (·.val)) := by simpa [mkeys, Function.comp_def] using hvals
  have hlt : b < w.heap.size := (Array.getElem?_eq_some_iff.1 hb).1
  have hil : i < hp.length := (List.getElem?_eq_some_iff.1 hi).1
  obtain ⟨es', clock', hrun, hke, hva, hsm⟩ : ∃ (es' : List MapEntry) (clock' : Nat), (execOp e ⟨d, .mapUpdate xT x y z, ty, pos, aft, g⟩).run P w = .ok .skip { w with heap := w.heap.setIfInBounds b (.map es'.toArray clock') } ∧ es'.map (·.key) = (mkeys κ (mput k t l)).map (·.1) ∧ RTs M ((mkeys κ (mput k t l)).map (·.2)) (es'.map (·.val)) ∧ Stm es' clock' ∧ ∀ s ∈ o, s = (es'.map (·.born), clock') := by
    rcases find_keys hκ k l es 0 hkeys' with ⟨f1, f2, f3⟩ | ⟨j, e', t', f1, f2, f3, f4, f5⟩
    · refine ⟨es ++ [⟨κ k, e z, clock⟩], clock + 1, ?_, ?_, ?_, ⟨?_, ?_⟩, ?_⟩
      · simp [execOp, Instr.mapUpdate, h1.1, h2, run_underlying hu, MapKept.run_getObj_map hb, MapKept.run_checkKey hk (hκ.is k), MapKept.run_findKey hk f1, MapKept.run_setObj_map _ hb]
      · rw [f3]; simp [mkeys, hkeys']
      · rw [f3]
        have : RTs M (l.map (·.2) ++ [t]) (es.map (·.val) ++ [e z]) := hvals'.app (by simp only [RTs]; exact ⟨_, _, rfl, h3, rfl⟩)
        simpa [mkeys, Function.comp_def] using this
      · rw [List.map_append, List.nodup_append]
        refine ⟨hstm.1, by simp, fun a ha b hb => ?_⟩
        obtain ⟨x, hx, rfl⟩ := List.mem_map.1 ha
        have := hstm.2 x hx
        simp only [List.map_cons, List.map_nil, List.mem_singleton] at hb
        omega
      · intro x hx
        rcases List.mem_append.1 hx with hx | hx
        · have := hstm.2 x hx; omega
        · rw [List.mem_singleton.1 hx]; simp only; omega
      · rcases ho with rfl | ho
        · intro s hs; cases hs
        · rw [f2] at ho; cases ho
    · have hek : e'.key = κ k := by
        have := congrArg (fun l => l[j]?) hkeys'
        simp only [List.getElem?_map, f2, f3, Option.map_some, Option.some.injEq] at this
        exact this
      have hjl : j < es.length := (List.getElem?_eq_some_iff.1 f2).1
      have hbo : (es.set j ⟨κ k, e z, e'.born⟩).map (·.born) = es.map (·.born) := by
        obtain ⟨hj1, hj2⟩ := List.getElem?_eq_some_iff.1 f2
        rw [List.map_set, show e'.born = (es.map (·.born))[j]'(by simpa using hj1) by rw [List.getElem_map, hj2]]
        exact List.set_getElem_self _
      refine ⟨es.set j ⟨κ k, e z, e'.born⟩, clock, ?_, ?_, ?_, ⟨by rw [hbo]; exact hstm.1, ?_⟩, by rw [hbo]; exact hst⟩
      · have hm := set_modify es j (fun q => { q with key := κ k, val := e z }) f2
        have hge : es[j]? = some e' := f2
        simp [execOp, Instr.mapUpdate, h1.1, h2, run_underlying hu, MapKept.run_getObj_map hb, MapKept.run_checkKey hk (hκ.is k), MapKept.run_findKey hk f1, hge, hek, run_stays (hκ.is k), MapKept.run_setObj_map _ hb, hm]
      · rw [f5]
        simp only [mkeys, List.map_set, List.map_map]
        rw [hkeys']
        rfl
      · rw [f5]
        have := RTs.set j hvals' h3
        simpa [mkeys, Function.comp_def, List.map_set] using this
      · intro x hx
        have hx2 : x.born ∈ es.map (·.born) := by rw [← hbo]; exact List.mem_map.2 ⟨x, hx, rfl⟩
        obtain ⟨y, hy, hyx⟩ := List.mem_map.1 hx2
        have := hstm.2 y hy
        omega
  rw [hrun]
  refine ⟨M, _, _, h, Ext.refl _ _, ?_, by simp only [RA, RT]⟩
  refine hh.step i rfl rfl rfl (by simp) (fun c hc hne => ?_) (Ext.refl _ _) (fun p v h1 h2 => by rw [h2] at h1; cases h1) (fun j hj => by rw [List.getElem?_set_ne (Ne.symm hj)]) (fun x' hx' => ?_)
  · have : c ≠ b := fun e => hne _ hi (by rw [e]; rfl)
    simp [Array.getElem?_setIfInBounds, Ne.symm this]
  · rw [List.getElem?_set_self hil] at hx'
    obtain rfl : Blk.mpx b (mkeys κ (mput k t l)) o = x' := by injection hx'
    exact ⟨⟨es', clock', by simp [Array.getElem?_setIfInBounds, hlt], hke, hva, hsm⟩, fun b' hb' => .inl ⟨_, hi, hb'⟩⟩
theorem zMm {t : TypeId} {n : Nat} {hp' : Nat → List Blk} (h : ∀ b, K (.own n (.map (some b))) (hp' b)) (hn : lenU hp = some n := by exact rfl) (hf : ∀ b, evl (hp ++ [.mp b []]) = some (hp' b) := by exact fun _ => rfl) : LO P F ⟨d, .makeMap t none, ty, pos, aft, g⟩ ρ hp K :=
  lo_makeMap fun b => by rw [← evl_eq (hf b), ← lenU_eq hn]; exact h b
def isMap (P : Program) (t : TypeId) : Option (TypeId × TypeId) := match P.underlying t with | some (.map k e) => some (k, e) | _ => none
theorem isMap_eq {t : TypeId} (h : isMap P t = some (kT, eT)) : P.underlying t = some (.map kT eT) := by
  unfold isMap at h
  split at h
  · rename_i h'
    injection h with h
    injection h with h1 h2
    rw [h', h1, h2]
  · cases h
theorem zLks (kT eT : TypeId) {s : ByteArray} {l : List (ByteArray × T)} {t : T} (ht : (mget s l).getD (.lit z0) = t) (h : K (.c t) hp) (hL : TabOk P L := by exact tok) (hu : isMap P xT = some (kT, eT) := by kernel_rfl) (hk : P.underlying kT = some .string := by kernel_rfl) (hte : L.look eT = some te := by exact rfl) (hz : te.zero = [z0] := by exact rfl) (ha : te.agg = false := by exact rfl) (hx : ρ x = .own i (.map (some b)) := by exact rfl) (hi : hp[i]? = some (.mpx b (mkeys Value.string l) o) := by exact rfl) (hy : ρ y = .c (.lit (.string s)) := by exact rfl) :
    LO P F ⟨d, .lookup xT x y false, ty, pos, aft, g⟩ ρ hp K := lo_lookup keyStr hL (isMap_eq hu) hk hte hz ha hx hi hy (by rw [ht]; exact h)
theorem zUps (kT eT : TypeId) {s : ByteArray} {l : List (ByteArray × T)} {t : T} {hp' : List Blk} (h : K (.c (.lit undef)) hp') (hu : isMap P xT = some (kT, eT) := by kernel_rfl) (hk : P.underlying kT = some .string := by kernel_rfl) (hx : ρ x = .own i (.map (some b)) := by exact rfl) (hi : hp[i]? = some (.mp b (mkeys Value.string l)) := by exact rfl) (hy : ρ y = .c (.lit (.string s)) := by exact rfl) (hv : ρ z = .c t := by exact rfl) (hf : evl (hp.set i (.mp b (mkeys Value.string (mput s t l)))) = some hp' := by exact rfl) :
    LO P F ⟨d, .mapUpdate xT x y z, ty, pos, aft, g⟩ ρ hp K := lo_mapUpdate keyStr (isMap_eq hu) hk hx hi hy (fun M u h => by rw [hv] at h; simpa only [RA] using h) (.inl rfl) (by rw [← evl_eq hf]; exact h)
end
end Go.Proofs.Ytmdmgpnaiknlaaa
namespace Go.Proofs.Ytmdmgpnaiknlaaa
open Go.RowKit
section
variable {P : Program} {F : Frm} {L : Tab} {d : Option Tmp} {ty : TypeId} {pos : String} {aft : Array Edge} {g : Option (Nat × Bool)} {ρ : Operand → AV} {hp : List Blk} {K : AV → List Blk → Prop}
theorem lo_box_frz {t : TypeId} {x : Operand} {v : AV} {ts : List T} (hv : ρ x = v) (h1 : allOne (cellsA v) = true) (hz : Rzs [] (cellsA v) ts) (h : K (.c (.pin ts 0)) hp) : LO P F ⟨d, .box t x, ty, pos, aft, g⟩ ρ hp K := by
  refine ⟨fun M e w he hh => ?_⟩
  have hx := he x (by first | (simp [Op.operands]; done) | simp [Op.operands, Call.operands])
  rw [hv] at hx
  obtain ⟨hc, ho⟩ := cells_of hx h1
  have : (execOp e ⟨d, .box t x, ty, pos, aft, g⟩).run P w = .ok (.value (.pointer (some ⟨w.heap.size, 0, none⟩))) (w.alloc (.cells (e x).cells t)) := by
    simp [execOp, Instr.box, newVar, newRow]
  rw [this]
  have hyt := cls_sound _ _ _ hz hc
  have hb : Below w.heap.size w (w.alloc (.cells (e x).cells t)) := (Below.refl _ _).alloc (Nat.le_refl _) _
  have hm0 := hh.mem.below hb
  have hM := frz_ext (M := M) w.heap.size (w.alloc (.cells (e x).cells t))
  refine ⟨frz M w.heap.size (w.alloc (.cells (e x).cells t)), _, hp, h, (hM.low hh.frm.size), hh.below hb hM (frz_ok hm0 _), ?_⟩
  simp only [RA, RT]
  refine ⟨⟨w.heap.size, 0, none⟩, (e x).cells.toList, by rw [box_add], fun j u hj => ?_, RTs.mono hM.sub _ _ hyt⟩
  have hadd : (⟨w.heap.size, 0, none⟩ : Addr).add j = ⟨w.heap.size, j, none⟩ := by rw [box_add]; simp
  rw [hadd]
  refine frz_new (mem_fresh hh.mem (Nat.le_refl _)) (Nat.le_refl _) ?_ (ho u (List.mem_of_getElem? hj))
  rw [World.cell?_alloc_new]
  simpa using hj
theorem zBf {t : TypeId} {x : Operand} {v : AV} {cs : List AV} {ts : List T} (h : K (.c (.pin ts 0)) hp) (hv : fc (ρ x) = some v := by exact rfl) (hc : evl (cellsA v) = some cs := by exact rfl) (h1 : allOne cs = true := by first | exact rfl | assumption) (hz : Rzs [] cs ts := by repeat (first | exact rzs_nil | apply rzs_cons | exact rz_c | exact rz_nil rfl | apply rz_agg | apply rz_fn | apply rz_tup)) : LO P F ⟨d, .box t x, ty, pos, aft, g⟩ ρ hp K :=
  lo_box_frz (fc_eq hv) (by rw [← evl_eq hc]; exact h1) (by rw [← evl_eq hc]; exact hz) h
end
end Go.Proofs.Ytmdmgpnaiknlaaa
namespace Go.Proofs.Ytmdmgpnaiknlaaa
open Go.RowKit
structure Hold (G : Prop) : Prop where
  out : G
/-- operations and control, asq far asq they are plain -/
theorem gG {G G' : Prop} (h : G') (e : Hold G' → G := by
    intro h
    first | refine zNil ?_ | refine zOp ?_ | refine zOpn ?_ | refine zNo ?_ | refine zNon ?_ | refine zUn ?_ | refine zUnn ?_ | refine zYes ?_ | refine zYesn ?_ | (refine zkL ?_; first | refine zL1 ?_ | refine zL2 ?_ | refine zL3 ?_ | refine zLp ?_) | refine zM ?_ | (refine zkF ?_; first | refine zF1 ?_ | refine zF2 ?_ | refine zF3 ?_) | refine zA ?_ | (refine zkB ?_; first | refine zC5 ?_ | refine zC6 ?_ | refine zC1 ?_ | refine zC2 ?_ | refine zC3 ?_ | refine zC4 ?_ | refine zS5 ?_ | refine zS6 ?_ | refine zS1 ?_ | refine zS2 ?_ | refine zS3 ?_ | refine zS4 ?_ | refine zInc ?_ | refine zQ1 ?_ | refine zQ2 ?_ | refine zQ3 ?_ | refine zQ4 ?_ | refine zQ5 ?_ | refine zQ6 ?_) | (refine zkI ?_; first | refine zN3 ?_ | refine zN4 ?_) | refine zS ?_ | refine zPt ?_ | refine zPf ?_ | refine zE ?_ | refine zEA ?_ | refine zNot ?_ | refine zBd ?_ | refine zFn ?_ | refine zK1 ?_ | refine zK2 ?_ | refine zBs ?_ | refine ac_seq ?_ | refine ac_block ?_ | refine ac_region ?_ | refine ac_skip ?_ | refine ac_exit ?_ | refine ac_ret ?_ | refine zT ?_ | refine zF ?_
    repeat (first | refine zNil ?_ | refine zOp ?_ | refine zOpn ?_ | refine zNo ?_ | refine zNon ?_ | refine zUn ?_ | refine zUnn ?_ | refine zYes ?_ | refine zYesn ?_ | (refine zkL ?_; first | refine zL1 ?_ | refine zL2 ?_ | refine zL3 ?_ | refine zLp ?_) | refine zM ?_ | (refine zkF ?_; first | refine zF1 ?_ | refine zF2 ?_ | refine zF3 ?_) | refine zA ?_ | (refine zkB ?_; first | refine zC5 ?_ | refine zC6 ?_ | refine zC1 ?_ | refine zC2 ?_ | refine zC3 ?_ | refine zC4 ?_ | refine zS5 ?_ | refine zS6 ?_ | refine zS1 ?_ | refine zS2 ?_ | refine zS3 ?_ | refine zS4 ?_ | refine zInc ?_ | refine zQ1 ?_ | refine zQ2 ?_ | refine zQ3 ?_ | refine zQ4 ?_ | refine zQ5 ?_ | refine zQ6 ?_) | (refine zkI ?_; first | refine zN3 ?_ | refine zN4 ?_) | refine zS ?_ | refine zPt ?_ | refine zPf ?_ | refine zE ?_ | refine zEA ?_ | refine zNot ?_ | refine zBd ?_ | refine zFn ?_ | refine zK1 ?_ | refine zK2 ?_ | refine zBs ?_ | refine ac_seq ?_ | refine ac_block ?_ | refine ac_region ?_ | refine ac_skip ?_ | refine ac_exit ?_ | refine ac_ret ?_ | refine zT ?_ | refine zF ?_)
    exact h.out) : G := e ⟨h⟩
/-- the same, but no rows that are written out -/
theorem gX {G G' : Prop} (h : G') (e : Hold G' → G := by
    intro h
    first | refine zNil ?_ | refine zOp ?_ | refine zOpn ?_ | refine zNo ?_ | refine zNon ?_ | refine zUn ?_ | refine zUnn ?_ | refine zYes ?_ | refine zYesn ?_ | (refine zkL ?_; first | refine zL1 ?_ | refine zL2 ?_ | refine zL3 ?_ | refine zLp ?_) | refine zM ?_ | (refine zkF ?_; first | refine zF1 ?_ | refine zF2 ?_ | refine zF3 ?_) | refine zA ?_ | (refine zkB ?_; first | refine zC5 ?_ | refine zC6 ?_ | refine zC1 ?_ | refine zC2 ?_ | refine zC3 ?_ | refine zC4 ?_ | refine zS5 ?_ | refine zS6 ?_ | refine zS1 ?_ | refine zS2 ?_ | refine zS3 ?_ | refine zS4 ?_ | refine zInc ?_ | refine zQ1 ?_ | refine zQ2 ?_ | refine zQ3 ?_ | refine zQ4 ?_ | refine zQ5 ?_ | refine zQ6 ?_) | (refine zkI ?_; first | refine zN3 ?_ | refine zN4 ?_) | refine zS ?_ | refine zPt ?_ | refine zPf ?_ | refine zE ?_ | refine zEA ?_ | refine zNot ?_ | refine zBd ?_ | refine zFn ?_ | refine zK1 ?_ | refine zK2 ?_ | refine ac_seq ?_ | refine ac_block ?_ | refine ac_region ?_ | refine ac_skip ?_ | refine ac_exit ?_ | refine ac_ret ?_ | refine zT ?_ | refine zF ?_
    repeat (first | refine zNil ?_ | refine zOp ?_ | refine zOpn ?_ | refine zNo ?_ | refine zNon ?_ | refine zUn ?_ | refine zUnn ?_ | refine zYes ?_ | refine zYesn ?_ | (refine zkL ?_; first | refine zL1 ?_ | refine zL2 ?_ | refine zL3 ?_ | refine zLp ?_) | refine zM ?_ | (refine zkF ?_; first | refine zF1 ?_ | refine zF2 ?_ | refine zF3 ?_) | refine zA ?_ | (refine zkB ?_; first | refine zC5 ?_ | refine zC6 ?_ | refine zC1 ?_ | refine zC2 ?_ | refine zC3 ?_ | refine zC4 ?_ | refine zS5 ?_ | refine zS6 ?_ | refine zS1 ?_ | refine zS2 ?_ | refine zS3 ?_ | refine zS4 ?_ | refine zInc ?_ | refine zQ1 ?_ | refine zQ2 ?_ | refine zQ3 ?_ | refine zQ4 ?_ | refine zQ5 ?_ | refine zQ6 ?_) | (refine zkI ?_; first | refine zN3 ?_ | refine zN4 ?_) | refine zS ?_ | refine zPt ?_ | refine zPf ?_ | refine zE ?_ | refine zEA ?_ | refine zNot ?_ | refine zBd ?_ | refine zFn ?_ | refine zK1 ?_ | refine zK2 ?_ | refine ac_seq ?_ | refine ac_block ?_ | refine ac_region ?_ | refine ac_skip ?_ | refine ac_exit ?_ | refine ac_ret ?_ | refine zT ?_ | refine zF ?_)
    exact h.out) : G := e ⟨h⟩
/-- operations alone -/
theorem gO {G G' : Prop} (h : G') (e : Hold G' → G := by
    intro h
    first | refine zNil ?_ | refine zOp ?_ | refine zOpn ?_ | refine zNo ?_ | refine zNon ?_ | refine zUn ?_ | refine zUnn ?_ | refine zYes ?_ | refine zYesn ?_ | (refine zkL ?_; first | refine zL1 ?_ | refine zL2 ?_ | refine zL3 ?_ | refine zLp ?_) | refine zM ?_ | (refine zkF ?_; first | refine zF1 ?_ | refine zF2 ?_ | refine zF3 ?_) | refine zA ?_ | (refine zkB ?_; first | refine zC5 ?_ | refine zC6 ?_ | refine zC1 ?_ | refine zC2 ?_ | refine zC3 ?_ | refine zC4 ?_ | refine zS5 ?_ | refine zS6 ?_ | refine zS1 ?_ | refine zS2 ?_ | refine zS3 ?_ | refine zS4 ?_ | refine zInc ?_ | refine zQ1 ?_ | refine zQ2 ?_ | refine zQ3 ?_ | refine zQ4 ?_ | refine zQ5 ?_ | refine zQ6 ?_) | (refine zkI ?_; first | refine zN3 ?_ | refine zN4 ?_) | refine zS ?_ | refine zPt ?_ | refine zPf ?_ | refine zE ?_ | refine zEA ?_ | refine zNot ?_ | refine zBd ?_ | refine zFn ?_ | refine zK1 ?_ | refine zK2 ?_ | refine zBs ?_
    repeat (first | refine zNil ?_ | refine zOp ?_ | refine zOpn ?_ | refine zNo ?_ | refine zNon ?_ | refine zUn ?_ | refine zUnn ?_ | refine zYes ?_ | refine zYesn ?_ | (refine zkL ?_; first | refine zL1 ?_ | refine zL2 ?_ | refine zL3 ?_ | refine zLp ?_) | refine zM ?_ | (refine zkF ?_; first | refine zF1 ?_ | refine zF2 ?_ | refine zF3 ?_) | refine zA ?_ | (refine zkB ?_; first | refine zC5 ?_ | refine zC6 ?_ | refine zC1 ?_ | refine zC2 ?_ | refine zC3 ?_ | refine zC4 ?_ | refine zS5 ?_ | refine zS6 ?_ | refine zS1 ?_ | refine zS2 ?_ | refine zS3 ?_ | refine zS4 ?_ | refine zInc ?_ | refine zQ1 ?_ | refine zQ2 ?_ | refine zQ3 ?_ | refine zQ4 ?_ | refine zQ5 ?_ | refine zQ6 ?_) | (refine zkI ?_; first | refine zN3 ?_ | refine zN4 ?_) | refine zS ?_ | refine zPt ?_ | refine zPf ?_ | refine zE ?_ | refine zEA ?_ | refine zNot ?_ | refine zBd ?_ | refine zFn ?_ | refine zK1 ?_ | refine zK2 ?_ | refine zBs ?_)
    exact h.out) : G := e ⟨h⟩
/-- operations of a region that draws, asq long asq they only look -/
theorem gW {G G' : Prop} (h : G') (e : Hold G' → G := by
    intro h
    first | (apply w_q; (focus exact rfl); (focus exact rfl); focus (intro _; (first | (refine zkL ?_; first | refine zL1 ?_ | refine zL2 ?_ | refine zL3 ?_ | refine zLp ?_) | refine zM ?_ | (refine zkF ?_; first | refine zF1 ?_ | refine zF2 ?_ | refine zF3 ?_) | refine zA ?_ | (refine zkB ?_; first | refine zC5 ?_ | refine zC6 ?_ | refine zC1 ?_ | refine zC2 ?_ | refine zC3 ?_ | refine zC4 ?_ | refine zS5 ?_ | refine zS6 ?_ | refine zS1 ?_ | refine zS2 ?_ | refine zS3 ?_ | refine zS4 ?_ | refine zInc ?_ | refine zQ1 ?_ | refine zQ2 ?_ | refine zQ3 ?_ | refine zQ4 ?_ | refine zQ5 ?_ | refine zQ6 ?_) | (refine zkI ?_; first | refine zN3 ?_ | refine zN4 ?_) | refine zPt ?_ | refine zPf ?_ | refine zE ?_ | refine zEA ?_ | refine zNot ?_ | refine zBd ?_ | refine zBs ?_ | refine zFn ?_ | refine zK1 ?_ | refine zK2 ?_ | (refine zkI ?_; first | refine zN1 (fun _ => ?_) | refine zN2 (fun _ => ?_))); exact det_refl)) | (apply w_p; (focus exact rfl); (focus exact rfl); focus (intro _; (first | (refine zkL ?_; first | refine zL1 ?_ | refine zL2 ?_ | refine zL3 ?_ | refine zLp ?_) | refine zM ?_ | (refine zkF ?_; first | refine zF1 ?_ | refine zF2 ?_ | refine zF3 ?_) | refine zA ?_ | (refine zkB ?_; first | refine zC5 ?_ | refine zC6 ?_ | refine zC1 ?_ | refine zC2 ?_ | refine zC3 ?_ | refine zC4 ?_ | refine zS5 ?_ | refine zS6 ?_ | refine zS1 ?_ | refine zS2 ?_ | refine zS3 ?_ | refine zS4 ?_ | refine zInc ?_ | refine zQ1 ?_ | refine zQ2 ?_ | refine zQ3 ?_ | refine zQ4 ?_ | refine zQ5 ?_ | refine zQ6 ?_) | (refine zkI ?_; first | refine zN3 ?_ | refine zN4 ?_) | refine zPt ?_ | refine zPf ?_ | refine zE ?_ | refine zEA ?_ | refine zNot ?_ | refine zBd ?_ | refine zBs ?_ | refine zFn ?_ | refine zK1 ?_ | refine zK2 ?_ | (refine zkI ?_; first | refine zN1 (fun _ => ?_) | refine zN2 (fun _ => ?_))); exact det_refl)) | (apply w_un; (focus exact rfl); (focus exact rfl); (focus exact rfl); (focus exact rfl)) | (apply w_no; (focus exact rfl); (focus exact rfl); (focus exact rfl); (focus exact rfl); focus (first | rfl | assumption | exact neg_t (by assumption) | exact neg_f (by assumption))) | (apply w_qg; (focus exact rfl); (focus exact rfl); (focus exact rfl); (focus exact rfl); (focus (first | rfl | assumption | exact neg_t (by assumption) | exact neg_f (by assumption))); (focus (intro _; (first | (refine zkL ?_; first | refine zL1 ?_ | refine zL2 ?_ | refine zL3 ?_ | refine zLp ?_) | refine zM ?_ | (refine zkF ?_; first | refine zF1 ?_ | refine zF2 ?_ | refine zF3 ?_) | refine zA ?_ | (refine zkB ?_; first | refine zC5 ?_ | refine zC6 ?_ | refine zC1 ?_ | refine zC2 ?_ | refine zC3 ?_ | refine zC4 ?_ | refine zS5 ?_ | refine zS6 ?_ | refine zS1 ?_ | refine zS2 ?_ | refine zS3 ?_ | refine zS4 ?_ | refine zInc ?_ | refine zQ1 ?_ | refine zQ2 ?_ | refine zQ3 ?_ | refine zQ4 ?_ | refine zQ5 ?_ | refine zQ6 ?_) | (refine zkI ?_; first | refine zN3 ?_ | refine zN4 ?_) | refine zPt ?_ | refine zPf ?_ | refine zE ?_ | refine zEA ?_ | refine zNot ?_ | refine zBd ?_ | refine zBs ?_ | refine zFn ?_ | refine zK1 ?_ | refine zK2 ?_ | (refine zkI ?_; first | refine zN1 (fun _ => ?_) | refine zN2 (fun _ => ?_))); exact det_refl)))
    repeat (first | (apply w_q; (focus exact rfl); (focus exact rfl); focus (intro _; (first | (refine zkL ?_; first | refine zL1 ?_ | refine zL2 ?_ | refine zL3 ?_ | refine zLp ?_) | refine zM ?_ | (refine zkF ?_; first | refine zF1 ?_ | refine zF2 ?_ | refine zF3 ?_) | refine zA ?_ | (refine zkB ?_; first | refine zC5 ?_ | refine zC6 ?_ | refine zC1 ?_ | refine zC2 ?_ | refine zC3 ?_ | refine zC4 ?_ | refine zS5 ?_ | refine zS6 ?_ | refine zS1 ?_ | refine zS2 ?_ | refine zS3 ?_ | refine zS4 ?_ | refine zInc ?_ | refine zQ1 ?_ | refine zQ2 ?_ | refine zQ3 ?_ | refine zQ4 ?_ | refine zQ5 ?_ | refine zQ6 ?_) | (refine zkI ?_; first | refine zN3 ?_ | refine zN4 ?_) | refine zPt ?_ | refine zPf ?_ | refine zE ?_ | refine zEA ?_ | refine zNot ?_ | refine zBd ?_ | refine zBs ?_ | refine zFn ?_ | refine zK1 ?_ | refine zK2 ?_ | (refine zkI ?_; first | refine zN1 (fun _ => ?_) | refine zN2 (fun _ => ?_))); exact det_refl)) | (apply w_p; (focus exact rfl); (focus exact rfl); focus (intro _; (first | (refine zkL ?_; first | refine zL1 ?_ | refine zL2 ?_ | refine zL3 ?_ | refine zLp ?_) | refine zM ?_ | (refine zkF ?_; first | refine zF1 ?_ | refine zF2 ?_ | refine zF3 ?_) | refine zA ?_ | (refine zkB ?_; first | refine zC5 ?_ | refine zC6 ?_ | refine zC1 ?_ | refine zC2 ?_ | refine zC3 ?_ | refine zC4 ?_ | refine zS5 ?_ | refine zS6 ?_ | refine zS1 ?_ | refine zS2 ?_ | refine zS3 ?_ | refine zS4 ?_ | refine zInc ?_ | refine zQ1 ?_ | refine zQ2 ?_ | refine zQ3 ?_ | refine zQ4 ?_ | refine zQ5 ?_ | refine zQ6 ?_) | (refine zkI ?_; first | refine zN3 ?_ | refine zN4 ?_) | refine zPt ?_ | refine zPf ?_ | refine zE ?_ | refine zEA ?_ | refine zNot ?_ | refine zBd ?_ | refine zBs ?_ | refine zFn ?_ | refine zK1 ?_ | refine zK2 ?_ | (refine zkI ?_; first | refine zN1 (fun _ => ?_) | refine zN2 (fun _ => ?_))); exact det_refl)) | (apply w_un; (focus exact rfl); (focus exact rfl); (focus exact rfl); (focus exact rfl)) | (apply w_no; (focus exact rfl); (focus exact rfl); (focus exact rfl); (focus exact rfl); focus (first | rfl | assumption | exact neg_t (by assumption) | exact neg_f (by assumption))) | (apply w_qg; (focus exact rfl); (focus exact rfl); (focus exact rfl); (focus exact rfl); (focus (first | rfl | assumption | exact neg_t (by assumption) | exact neg_f (by assumption))); (focus (intro _; (first | (refine zkL ?_; first | refine zL1 ?_ | refine zL2 ?_ | refine zL3 ?_ | refine zLp ?_) | refine zM ?_ | (refine zkF ?_; first | refine zF1 ?_ | refine zF2 ?_ | refine zF3 ?_) | refine zA ?_ | (refine zkB ?_; first | refine zC5 ?_ | refine zC6 ?_ | refine zC1 ?_ | refine zC2 ?_ | refine zC3 ?_ | refine zC4 ?_ | refine zS5 ?_ | refine zS6 ?_ | refine zS1 ?_ | refine zS2 ?_ | refine zS3 ?_ | refine zS4 ?_ | refine zInc ?_ | refine zQ1 ?_ | refine zQ2 ?_ | refine zQ3 ?_ | refine zQ4 ?_ | refine zQ5 ?_ | refine zQ6 ?_) | (refine zkI ?_; first | refine zN3 ?_ | refine zN4 ?_) | refine zPt ?_ | refine zPf ?_ | refine zE ?_ | refine zEA ?_ | refine zNot ?_ | refine zBd ?_ | refine zBs ?_ | refine zFn ?_ | refine zK1 ?_ | refine zK2 ?_ | (refine zkI ?_; first | refine zN1 (fun _ => ?_) | refine zN2 (fun _ => ?_))); exact det_refl))))
    exact h.out) : G := e ⟨h⟩
end Go.Proofs.Ytmdmgpnaiknlaaa
namespace Go.Proofs.Ytmdmgpnaiknlaaa
open Go.RowKit
inductive V where
  | mk (kind num : Int) (text : ByteArray) (args : List V)
mutual
def V.ts : V → List T
  | .mk k n t l => [.lit (.int .i64 k), .lit (.int .i64 n), .lit (.string t), .row l.length 4 (V.all l)]
def V.all : List V → List T
  | [] => []
  | v :: r => v.ts ++ V.all r
end
theorem V.all_eq : ∀ l : List V, V.all l = l.flatMap V.ts
  | [] => rfl
  | v :: l => by rw [V.all, V.all_eq l]; rfl
theorem V.ts_len : ∀ v : V, v.ts.length = 4
  | .mk _ _ _ _ => rfl
def V.row (l : List V) : T := .row l.length 4 (V.all l)
def V.t (v : V) : T := .agg v.ts
mutual
def V.same : V → V → Bool
  | .mk k n t l, .mk k' n' t' l' => decide (k = k') && decide (n = n') && decide (t = t') && V.sames l l'
def V.sames : List V → List V → Bool
  | [], [] => true
  | v :: l, v' :: l' => v.same v' && V.sames l l'
  | _, _ => false
end
theorem V.at {l : List V} {k : Nat} {v : V} (h : l[k]? = some v) : ((V.all l).drop (k * 4)).take 4 = v.ts := by rw [V.all_eq]; exact flat_at V.ts 4 V.ts_len h
mutual
def V.size : V → Nat
  | .mk _ _ _ l => V.sizes l + 1
def V.sizes : List V → Nat
  | [] => 0
  | v :: r => v.size + V.sizes r
end
theorem V.size_mem {v : V} : ∀ {l : List V}, v ∈ l → v.size ≤ V.sizes l
  | [], h => by simp at h
  | x :: l, h => by
    simp only [V.sizes]
    rcases List.mem_cons.1 h with rfl | h
    · omega
    · have := V.size_mem h; omega
theorem V.len_sizes : ∀ l : List V, l.length ≤ V.sizes l
  | [] => by simp [V.sizes]
  | .mk _ _ _ _ :: l => by have := V.len_sizes l; simp only [V.sizes, V.size, List.length_cons]; omega
theorem V.ind {P : V → Prop} (h : ∀ k n t l, (∀ v ∈ l, P v) → P (.mk k n t l)) : ∀ v, P v := by
  have : ∀ (N : Nat) (v : V), v.size ≤ N → P v := by
    intro N
    induction N with
    | zero => intro v hv; cases v; simp [V.size] at hv
    | succ N ih =>
      intro v hv
      cases v with
      | mk k n t l =>
        refine h k n t l fun x hx => ih x ?_
        have := V.size_mem hx
        simp only [V.size] at hv
        omega
  exact fun v => this v.size v (Nat.le_refl _)
end Go.Proofs.Ytmdmgpnaiknlaaa
namespace Go.Proofs.Ytmdmgpnaiknlaaa
open Go.RowKit
theorem V.all_app (l r : List V) : V.all (l ++ r) = V.all l ++ V.all r := by simp [V.all_eq]
theorem V.all_one (v : V) : V.all [v] = v.ts := by simp [V.all]
end Go.Proofs.Ytmdmgpnaiknlaaa
namespace Go.Proofs.Ytmdmgpnaiknlaaa
open Go.RowKit
/-- it is a bool -/
def Tell (t : T) : Prop := ∃ b : Bool, t = .lit (.bool b)
theorem nth {α : Type} {l : List α} {k : Nat} (h : k < l.length) : ∃ a, l[k]? = some a := ⟨_, List.getElem?_eq_getElem h⟩
def V.args : V → List V
  | .mk _ _ _ l => l
theorem V.sizes_app (l r : List V) : V.sizes (l ++ r) = V.sizes l + V.sizes r := by
  induction l with
  | nil => simp [V.sizes]
  | cons v l ih => simp only [List.cons_append, V.sizes, ih]; omega
theorem V.sizes_flat : ∀ l : List V, V.sizes (l.flatMap V.args) + l.length = V.sizes l
  | [] => rfl
  | .mk _ _ _ a :: l => by
    have := V.sizes_flat l
    simp only [List.flatMap_cons, V.args, V.sizes_app, V.sizes, V.size, List.length_cons]
    omega
theorem V.take_sizes (l : List V) (k : Nat) : V.sizes (l.take k) ≤ V.sizes l := by
  have := V.sizes_app (l.take k) (l.drop k)
  rw [List.take_append_drop] at this
  omega
theorem flat_snoc' {α β : Type} (f : α → List β) {l : List α} {k : Nat} {a : α} (h : l[k]? = some a) : (l.take (k + 1)).flatMap f = (l.take k).flatMap f ++ f a := by
  obtain ⟨h1, rfl⟩ := List.getElem?_eq_some_iff.1 h
  rw [List.take_succ_eq_append_getElem h1, List.flatMap_append]
  simp
end Go.Proofs.Ytmdmgpnaiknlaaa
namespace Go.Proofs.Ytmdmgpnaiknlaaa
open Go.RowKit
inductive Y where
  | mk (kind : Int) (name : ByteArray) (args : List Y)
mutual
def Y.ts : Y → List T
  | .mk k n l => [.lit (.int .i64 k), .lit (.string n), .row l.length 3 (Y.all l)]
def Y.all : List Y → List T
  | [] => []
  | v :: r => v.ts ++ Y.all r
end
theorem Y.all_eq : ∀ l : List Y, Y.all l = l.flatMap Y.ts
  | [] => rfl
  | v :: l => by rw [Y.all, Y.all_eq l]; rfl
theorem Y.ts_len : ∀ v : Y, v.ts.length = 3
  | .mk _ _ _ => rfl
def Y.row (l : List Y) : T := .row l.length 3 (Y.all l)
def Y.t (v : Y) : T := .agg v.ts
theorem Y.at {l : List Y} {k : Nat} {v : Y} (h : l[k]? = some v) : ((Y.all l).drop (k * 3)).take 3 = v.ts := by rw [Y.all_eq]; exact flat_at Y.ts 3 Y.ts_len h
theorem Y.all_app (l r : List Y) : Y.all (l ++ r) = Y.all l ++ Y.all r := by simp [Y.all_eq]
theorem Y.all_one (v : Y) : Y.all [v] = v.ts := by simp [Y.all]
mutual
def Y.size : Y → Nat
  | .mk _ n l => Y.sizes l + n.size + 1
def Y.sizes : List Y → Nat
  | [] => 0
  | v :: r => v.size + Y.sizes r
end
theorem Y.size_mem {v : Y} : ∀ {l : List Y}, v ∈ l → v.size ≤ Y.sizes l
  | [], h => by simp at h
  | x :: l, h => by
    simp only [Y.sizes]
    rcases List.mem_cons.1 h with rfl | h
    · omega
    · have := Y.size_mem h; omega
theorem Y.sizes_sum : ∀ l : List Y, Y.sizes l = (l.map Y.size).sum
  | [] => rfl
  | v :: l => by simp [Y.sizes, Y.sizes_sum l]
instance : Inhabited Y := ⟨.mk 0 ⟨#[]⟩ []⟩
theorem Y.len_sizes : ∀ l : List Y, l.length ≤ Y.sizes l
  | [] => by simp [Y.sizes]
  | .mk _ _ _ :: l => by have := Y.len_sizes l; simp only [Y.sizes, Y.size, List.length_cons]; omega
theorem Y.ind {P : Y → Prop} (h : ∀ k n l, (∀ v ∈ l, P v) → P (.mk k n l)) : ∀ v, P v := by
  have : ∀ (N : Nat) (v : Y), v.size ≤ N → P v := by
    intro N
    induction N with
    | zero => intro v hv; cases v; simp [Y.size] at hv
    | succ N ih =>
      intro v hv
      cases v with
      | mk k n l =>
        refine h k n l fun x hx => ih x ?_
        have := Y.size_mem hx
        simp only [Y.size] at hv
        omega
  exact fun v => this _ v (Nat.le_refl _)
def Y.args : Y → List Y
  | .mk _ _ l => l
theorem Y.sizes_app (l r : List Y) : Y.sizes (l ++ r) = Y.sizes l + Y.sizes r := by
  induction l with
  | nil => simp [Y.sizes]
  | cons v l ih => simp only [List.cons_append, Y.sizes, ih]; omega
theorem Y.sizes_flat : ∀ l : List Y, Y.sizes (l.flatMap Y.args) + l.length ≤ Y.sizes l
  | [] => by simp [Y.sizes]
  | .mk _ _ a :: l => by
    have := Y.sizes_flat l
    simp only [List.flatMap_cons, Y.args, Y.sizes_app, Y.sizes, Y.size, List.length_cons]
    omega
theorem Y.take_sizes (l : List Y) (k : Nat) : Y.sizes (l.take k) ≤ Y.sizes l := by
  have := Y.sizes_app (l.take k) (l.drop k)
  rw [List.take_append_drop] at this
  omega
set_option maxRecDepth 100000 in
set_option maxHeartbeats 2000000 in
theorem typesSmall_af (l0 : List Y) (hv : Y.sizes l0 ≤ 1048576) : AF Try.prog 7 [Y.row l0] Tell := by
  have hl0 := Y.len_sizes l0
  have hz0 : T.row (0 + l0.length) 3 ([] ++ Y.all l0) = Y.row l0 := by simp [Y.row]
  refine af_enter tok Try.func7 Try.ntmps7 Try.results7 rfl (by kernel_rfl) rfl rfl fun F hX => ?_
  repeat (first | refine gX ?_ | refine zN1 (fun hlen => ?_) | refine zN2 (fun hlen => ?_) | refine zAl (fun _ => ?_) | refine zAp (fun _ => ?_))
  refine lo_bslice_own (ts := []) tok rfl rfl rfl rfl rfl rfl (by repeat (first | exact rzs_nil | apply rzs_cons | exact rz_c | exact rz_nil rfl | apply rz_agg | exact rz_own rfl | apply rz_fn | exact rz_ptr rfl | apply rz_tup)) (fun _ => ?_)
  repeat (first | refine gG ?_ | refine zN1 (fun hlen => ?_) | refine zN2 (fun hlen => ?_) | refine zAl (fun _ => ?_) | refine zAp (fun _ => ?_))
  refine ac_wk (wk_frz hX 3 rfl rfl rfl rfl) ?_
  refine x_loop [2, 3, 4, 5, 6, 8, 12, 13, 14, 15, 16, 17, 18, 19, 20, 21, 22, 23, 24, 25, 26, 27, 28, 29, 30, 31, 32, 33, 34, 35, 36, 37, 38] (fun y : List Y × Nat × Nat => [(3, .c (Y.row y.1)), (4, .c (.lit (.int .i64 (y.2.1 : Nat)))), (5, .c (.lit (.int .i64 (y.2.2 : Nat))))]) (fun _ => [.dead])
    (fun y => Y.sizes y.1 ≤ 1048576 ∧ y.2.1 ≤ 1000 ∧ y.2.2 ≤ 101) (fun y => 102 - y.2.2) (l0, 0, 0) ⟨hv, by simp, by simp⟩ ⟨congrArg AV.c hz0, rfl, rfl, trivial⟩ rfl ?_
  rintro ⟨l, n, dp⟩ ⟨hl, hn, hdp⟩
  dsimp only at hl hn hdp ⊢
  have hll := Y.len_sizes l
  repeat (first | refine gG ?_ | refine zN1 (fun hlen => ?_) | refine zN2 (fun hlen => ?_) | refine zAl (fun _ => ?_) | refine zAp (fun _ => ?_))
  refine x_cond rfl (fun h => ?_) (fun h => ?_)
  · repeat (first | refine gG ?_ | refine zN1 (fun hlen => ?_) | refine zN2 (fun hlen => ?_) | refine zAl (fun _ => ?_) | refine zAp (fun _ => ?_))
    refine lo_add rfl rfl (r := ((n + l.length : Nat) : Int)) (by rw [IntWalk.i64_in _ (by omega)]; omega) ?_
    cases d1 : decide ((100 : Int) < (dp : Int))
    · cases d2 : decide ((1000 : Int) < ((n + l.length : Nat) : Int))
      · have hd1 : ¬ (100 : Int) < (dp : Int) := of_decide_eq_false d1
        have hd2 : ¬ (1000 : Int) < ((n + l.length : Nat) : Int) := of_decide_eq_false d2
        repeat (first | refine gG ?_ | refine zN1 (fun hlen => ?_) | refine zN2 (fun hlen => ?_) | refine zAl (fun _ => ?_) | refine zAp (fun _ => ?_))
        refine x_own 6 32 3 rfl rfl rfl rfl rfl ?_
        refine x_loop [6, 8, 29, 30, 31, 32, 33, 34, 35, 36, 37] (fun y : Nat × Value => [(29, .c (.lit (.int .i64 (y.1 : Nat)))), (6, .own 1 y.2)]) (fun y => [.dead, .row y.2 32 3 ((l.take y.1).flatMap Y.args).length (Y.all ((l.take y.1).flatMap Y.args))])
          (fun y => y.1 ≤ l.length) (fun y => l.length - y.1) (0, .slice none 0 0) (Nat.zero_le _) ⟨rfl, rfl, trivial⟩ rfl ?_
        rintro ⟨k, v⟩ hk
        dsimp only at hk ⊢
        repeat (first | refine gG ?_ | refine zN1 (fun hlen => ?_) | refine zN2 (fun hlen => ?_) | refine zAl (fun _ => ?_) | refine zAp (fun _ => ?_))
        refine x_cond rfl (fun h => ?_) (fun h => ?_)
        · have hk' : k < l.length := by simpa using h
          obtain ⟨a, ha⟩ := nth hk'
          have hsn := flat_snoc' Y.args ha
          have hsz : ((l.take k).flatMap Y.args).length + a.args.length ≤ 1048576 := by
            have h1 := Y.len_sizes ((l.take (k + 1)).flatMap Y.args)
            have h2 := Y.sizes_flat (l.take (k + 1))
            have h3 := Y.take_sizes l (k + 1)
            rw [hsn] at h1 h2
            rw [List.length_append] at h1
            omega
          repeat (first | refine gG ?_ | refine zN1 (fun hlen => ?_) | refine zN2 (fun hlen => ?_) | refine zAl (fun _ => ?_) | refine zAp (fun _ => ?_))
          refine zIx (k) (hk') ?_
          repeat (first | refine gG ?_ | refine zN1 (fun hlen => ?_) | refine zN2 (fun hlen => ?_) | refine zAl (fun _ => ?_) | refine zAp (fun _ => ?_))
          refine zEl (Y.at ha) (Y.ts_len a) ?_
          obtain ⟨ka, ta, la⟩ := a
          simp only [Y.args] at hsz hsn
          repeat (first | refine gG ?_ | refine zN1 (fun hlen => ?_) | refine zN2 (fun hlen => ?_) | refine zAl (fun _ => ?_) | refine zAp (fun _ => ?_))
          exact ⟨(k + 1, _), hk', by simp only; omega, x_wkd 2 ⟨rfl, rfl, trivial⟩ (by simp only [hsn, Y.all_app, List.length_append]; rfl) (by repeat (first | exact ag_refl | refine ag_upd rfl ?_ | refine ag_at rfl rfl ?_))⟩
        · have hk' : k = l.length := by have : ¬ k < l.length := by simpa using h
                                        omega
          subst hk'
          repeat (first | refine gG ?_ | refine zN1 (fun hlen => ?_) | refine zN2 (fun hlen => ?_) | refine zAl (fun _ => ?_) | refine zAp (fun _ => ?_))
          refine ⟨(l.flatMap Y.args, n + l.length, dp + 1), ⟨?_, by simp only; omega, by simp only; omega⟩, by simp only; omega, (wk_frz hX 3 rfl rfl rfl rfl).trans (x_wkd 1 ⟨?_, rfl, rfl, trivial⟩ rfl (by repeat (first | exact ag_refl | refine ag_upd rfl ?_ | refine ag_at rfl rfl ?_)))⟩
          · have := Y.sizes_flat l; simp only; omega
          · simp only [List.take_length]; rfl
      · repeat (first | refine gG ?_ | refine zN1 (fun hlen => ?_) | refine zN2 (fun hlen => ?_) | refine zAl (fun _ => ?_) | refine zAp (fun _ => ?_))
        first | refine zR ?_ | refine zQ ?_
        exact ⟨_, rfl⟩
    · repeat (first | refine gG ?_ | refine zN1 (fun hlen => ?_) | refine zN2 (fun hlen => ?_) | refine zAl (fun _ => ?_) | refine zAp (fun _ => ?_))
      first | refine zR ?_ | refine zQ ?_
      exact ⟨_, rfl⟩
  · repeat (first | refine gG ?_ | refine zN1 (fun hlen => ?_) | refine zN2 (fun hlen => ?_) | refine zAl (fun _ => ?_) | refine zAp (fun _ => ?_))
    first | refine zR ?_ | refine zQ ?_
    exact ⟨_, rfl⟩
end Go.Proofs.Ytmdmgpnaiknlaaa
namespace Go.Proofs.Ytmdmgpnaiknlaaa
open Go.RowKit
mutual
inductive Ex where
  | mk (kind num : Int) (text : ByteArray) (names : List ByteArray) (types : List Y) (args : List Ex) (arms : List Ar) (pos : Int)
inductive Ar where
  | mk (pat : V) (body : Ex)
end
mutual
def Ex.ts : Ex → List T
  | .mk k n t ns ys l rs a => [.lit (.int .i64 k), .lit (.int .i64 n), .lit (.string t), strRow ns, Y.row ys, .row l.length 8 (Ex.all l), .row rs.length 12 (Ar.all rs), .lit (.int .i64 a)]
def Ex.all : List Ex → List T
  | [] => []
  | v :: r => v.ts ++ Ex.all r
def Ar.ts : Ar → List T
  | .mk p b => p.ts ++ b.ts
def Ar.all : List Ar → List T
  | [] => []
  | v :: r => v.ts ++ Ar.all r
end
theorem Ex.all_eq : ∀ l : List Ex, Ex.all l = l.flatMap Ex.ts
  | [] => rfl
  | v :: l => by rw [Ex.all, Ex.all_eq l]; rfl
theorem Ar.all_eq : ∀ l : List Ar, Ar.all l = l.flatMap Ar.ts
  | [] => rfl
  | v :: l => by rw [Ar.all, Ar.all_eq l]; rfl
theorem Ex.ts_len : ∀ v : Ex, v.ts.length = 8
  | .mk _ _ _ _ _ _ _ _ => rfl
theorem Ar.ts_len : ∀ v : Ar, v.ts.length = 12
  | .mk p b => by rw [Ar.ts, List.length_append, V.ts_len, Ex.ts_len]
def Ex.row (l : List Ex) : T := .row l.length 8 (Ex.all l)
def Ex.t (v : Ex) : T := .agg v.ts
def Ar.row (l : List Ar) : T := .row l.length 12 (Ar.all l)
theorem Ex.at {l : List Ex} {k : Nat} {v : Ex} (h : l[k]? = some v) : ((Ex.all l).drop (k * 8)).take 8 = v.ts := by rw [Ex.all_eq]; exact flat_at Ex.ts 8 Ex.ts_len h
theorem Ar.at {l : List Ar} {k : Nat} {v : Ar} (h : l[k]? = some v) : ((Ar.all l).drop (k * 12)).take 12 = v.ts := by rw [Ar.all_eq]; exact flat_at Ar.ts 12 Ar.ts_len h
theorem Ex.all_app (l r : List Ex) : Ex.all (l ++ r) = Ex.all l ++ Ex.all r := by simp [Ex.all_eq]
theorem Ex.all_one (v : Ex) : Ex.all [v] = v.ts := by simp [Ex.all]
theorem V.all_app' (l r : List V) : V.all (l ++ r) = V.all l ++ V.all r := by simp [V.all_eq]
def strSize (l : List ByteArray) : Nat := (l.map fun s => s.size + 1).sum
mutual
def Ex.size : Ex → Nat
  | .mk _ _ t ns ys l rs _ => t.size + strSize ns + Y.sizes ys + Ex.sizes l + Ar.sizes rs + 1
def Ex.sizes : List Ex → Nat
  | [] => 0
  | v :: r => v.size + Ex.sizes r
def Ar.size : Ar → Nat
  | .mk p b => p.size + b.size
def Ar.sizes : List Ar → Nat
  | [] => 0
  | v :: r => v.size + Ar.sizes r
end
theorem Ex.sizes_sum : ∀ l : List Ex, Ex.sizes l = (l.map Ex.size).sum
  | [] => rfl
  | v :: l => by simp [Ex.sizes, Ex.sizes_sum l]
theorem Ar.sizes_sum : ∀ l : List Ar, Ar.sizes l = (l.map Ar.size).sum
  | [] => rfl
  | v :: l => by simp [Ar.sizes, Ar.sizes_sum l]
theorem sum_mem' {α : Type} (μ : α → Nat) : ∀ {l : List α} {a : α}, a ∈ l → μ a ≤ (l.map μ).sum
  | [], _, h => by simp at h
  | x :: l, a, h => by
    simp only [List.map_cons, List.sum_cons]
    rcases List.mem_cons.1 h with rfl | h
    · omega
    · have := sum_mem' μ h; omega
theorem len_sum' {α : Type} (μ : α → Nat) (h : ∀ a, 1 ≤ μ a) : ∀ l : List α, l.length ≤ (l.map μ).sum
  | [] => by simp
  | x :: l => by have := h x; have := len_sum' μ h l; simp only [List.map_cons, List.sum_cons, List.length_cons]; omega
theorem Ex.size_mem {v : Ex} {l : List Ex} (h : v ∈ l) : v.size ≤ Ex.sizes l := by rw [Ex.sizes_sum]; exact sum_mem' Ex.size h
theorem Ar.size_mem {v : Ar} {l : List Ar} (h : v ∈ l) : v.size ≤ Ar.sizes l := by rw [Ar.sizes_sum]; exact sum_mem' Ar.size h
theorem Ex.size_pos : ∀ v : Ex, 1 ≤ v.size
  | .mk _ _ _ _ _ _ _ _ => by simp only [Ex.size]; omega
theorem Ar.size_pos : ∀ v : Ar, 1 ≤ v.size
  | .mk p b => by have := b.size_pos; simp only [Ar.size]; omega
theorem Ex.len_sizes (l : List Ex) : l.length ≤ Ex.sizes l := by rw [Ex.sizes_sum]; exact len_sum' Ex.size Ex.size_pos l
theorem Ar.len_sizes (l : List Ar) : l.length ≤ Ar.sizes l := by rw [Ar.sizes_sum]; exact len_sum' Ar.size Ar.size_pos l
theorem strSize_len (l : List ByteArray) : l.length ≤ strSize l := len_sum' (fun s : ByteArray => s.size + 1) (fun _ => by omega) l
instance : Inhabited Ex := ⟨.mk 0 0 ⟨#[]⟩ [] [] [] [] 0⟩
instance : Inhabited Ar := ⟨.mk (.mk 0 0 ⟨#[]⟩ []) default⟩
structure Us where
  name : ByteArray
  low : Int
  high : Int
def Us.ts : Us → List T
  | ⟨f_name, f_low, f_high⟩ => [.lit (.string f_name), .lit (.int .i64 f_low), .lit (.int .i64 f_high)]
theorem Us.ts_len (x : Us) : x.ts.length = 3 := by simp [Us.ts]
def Us.t (x : Us) : T := .agg x.ts
def Us.row (l : List Us) : T := .row l.length 3 (l.flatMap Us.ts)
theorem Us.at {l : List Us} {k : Nat} {x : Us} (h : l[k]? = some x) : ((l.flatMap Us.ts).drop (k * 3)).take 3 = x.ts := flat_at Us.ts 3 Us.ts_len h
def Us.size : Us → Nat
  | ⟨f_name, _, _⟩ => f_name.size + 1
def Us.sizes (l : List Us) : Nat := (l.map Us.size).sum
theorem Us.size_mem {x : Us} {l : List Us} (h : x ∈ l) : x.size ≤ Us.sizes l := sum_mem' Us.size h
theorem Us.len_sizes (l : List Us) : l.length ≤ Us.sizes l := len_sum' Us.size (fun x => by simp only [Us.size]; omega) l
instance : Inhabited Us := ⟨⟨⟨#[]⟩, 0, 0⟩⟩
structure Mk where
  name : ByteArray
  args : List Y
def Mk.ts : Mk → List T
  | ⟨f_name, f_args⟩ => [.lit (.string f_name), Y.row f_args]
theorem Mk.ts_len (x : Mk) : x.ts.length = 2 := by simp [Mk.ts]
def Mk.t (x : Mk) : T := .agg x.ts
def Mk.row (l : List Mk) : T := .row l.length 2 (l.flatMap Mk.ts)
theorem Mk.at {l : List Mk} {k : Nat} {x : Mk} (h : l[k]? = some x) : ((l.flatMap Mk.ts).drop (k * 2)).take 2 = x.ts := flat_at Mk.ts 2 Mk.ts_len h
def Mk.size : Mk → Nat
  | ⟨f_name, f_args⟩ => f_name.size + Y.sizes f_args + 1
def Mk.sizes (l : List Mk) : Nat := (l.map Mk.size).sum
theorem Mk.size_mem {x : Mk} {l : List Mk} (h : x ∈ l) : x.size ≤ Mk.sizes l := sum_mem' Mk.size h
theorem Mk.len_sizes (l : List Mk) : l.length ≤ Mk.sizes l := len_sum' Mk.size (fun x => by simp only [Mk.size]; omega) l
instance : Inhabited Mk := ⟨⟨⟨#[]⟩, []⟩⟩
structure Da where
  name : ByteArray
  params : List ByteArray
  makes : List Mk
def Da.ts : Da → List T
  | ⟨f_name, f_params, f_makes⟩ => [.lit (.string f_name), strRow f_params, Mk.row f_makes]
theorem Da.ts_len (x : Da) : x.ts.length = 3 := by simp [Da.ts]
def Da.t (x : Da) : T := .agg x.ts
def Da.row (l : List Da) : T := .row l.length 3 (l.flatMap Da.ts)
theorem Da.at {l : List Da} {k : Nat} {x : Da} (h : l[k]? = some x) : ((l.flatMap Da.ts).drop (k * 3)).take 3 = x.ts := flat_at Da.ts 3 Da.ts_len h
def Da.size : Da → Nat
  | ⟨f_name, f_params, f_makes⟩ => f_name.size + strSize f_params + Mk.sizes f_makes + 1
def Da.sizes (l : List Da) : Nat := (l.map Da.size).sum
theorem Da.size_mem {x : Da} {l : List Da} (h : x ∈ l) : x.size ≤ Da.sizes l := sum_mem' Da.size h
theorem Da.len_sizes (l : List Da) : l.length ≤ Da.sizes l := len_sum' Da.size (fun x => by simp only [Da.size]; omega) l
instance : Inhabited Da := ⟨⟨⟨#[]⟩, [], []⟩⟩
structure Fu where
  name : ByteArray
  params : List ByteArray
  names : List ByteArray
  types : List Y
  out : Y
  body : Ex
def Fu.ts : Fu → List T
  | ⟨f_name, f_params, f_names, f_types, f_out, f_body⟩ => [.lit (.string f_name), strRow f_params, strRow f_names, Y.row f_types] ++ f_out.ts ++ f_body.ts
theorem Fu.ts_len (x : Fu) : x.ts.length = 15 := by simp [Fu.ts, Ex.ts_len, Y.ts_len]
def Fu.t (x : Fu) : T := .agg x.ts
def Fu.row (l : List Fu) : T := .row l.length 15 (l.flatMap Fu.ts)
theorem Fu.at {l : List Fu} {k : Nat} {x : Fu} (h : l[k]? = some x) : ((l.flatMap Fu.ts).drop (k * 15)).take 15 = x.ts := flat_at Fu.ts 15 Fu.ts_len h
def Fu.size : Fu → Nat
  | ⟨f_name, f_params, f_names, f_types, f_out, f_body⟩ => f_name.size + strSize f_params + strSize f_names + Y.sizes f_types + f_out.size + f_body.size + 1
def Fu.sizes (l : List Fu) : Nat := (l.map Fu.size).sum
theorem Fu.size_mem {x : Fu} {l : List Fu} (h : x ∈ l) : x.size ≤ Fu.sizes l := sum_mem' Fu.size h
theorem Fu.len_sizes (l : List Fu) : l.length ≤ Fu.sizes l := len_sum' Fu.size (fun x => by simp only [Fu.size]; omega) l
instance : Inhabited Fu := ⟨⟨⟨#[]⟩, [], [], [], default, default⟩⟩
structure Tr where
  name : ByteArray
  funcs : List Fu
def Tr.ts : Tr → List T
  | ⟨f_name, f_funcs⟩ => [.lit (.string f_name), Fu.row f_funcs]
theorem Tr.ts_len (x : Tr) : x.ts.length = 2 := by simp [Tr.ts]
def Tr.t (x : Tr) : T := .agg x.ts
def Tr.row (l : List Tr) : T := .row l.length 2 (l.flatMap Tr.ts)
theorem Tr.at {l : List Tr} {k : Nat} {x : Tr} (h : l[k]? = some x) : ((l.flatMap Tr.ts).drop (k * 2)).take 2 = x.ts := flat_at Tr.ts 2 Tr.ts_len h
def Tr.size : Tr → Nat
  | ⟨f_name, f_funcs⟩ => f_name.size + Fu.sizes f_funcs + 1
def Tr.sizes (l : List Tr) : Nat := (l.map Tr.size).sum
theorem Tr.size_mem {x : Tr} {l : List Tr} (h : x ∈ l) : x.size ≤ Tr.sizes l := sum_mem' Tr.size h
theorem Tr.len_sizes (l : List Tr) : l.length ≤ Tr.sizes l := len_sum' Tr.size (fun x => by simp only [Tr.size]; omega) l
instance : Inhabited Tr := ⟨⟨⟨#[]⟩, []⟩⟩
structure Im where
  trait : ByteArray
  dat : ByteArray
  funcs : List Fu
def Im.ts : Im → List T
  | ⟨f_trait, f_dat, f_funcs⟩ => [.lit (.string f_trait), .lit (.string f_dat), Fu.row f_funcs]
theorem Im.ts_len (x : Im) : x.ts.length = 3 := by simp [Im.ts]
def Im.t (x : Im) : T := .agg x.ts
def Im.row (l : List Im) : T := .row l.length 3 (l.flatMap Im.ts)
theorem Im.at {l : List Im} {k : Nat} {x : Im} (h : l[k]? = some x) : ((l.flatMap Im.ts).drop (k * 3)).take 3 = x.ts := flat_at Im.ts 3 Im.ts_len h
def Im.size : Im → Nat
  | ⟨f_trait, f_dat, f_funcs⟩ => f_trait.size + f_dat.size + Fu.sizes f_funcs + 1
def Im.sizes (l : List Im) : Nat := (l.map Im.size).sum
theorem Im.size_mem {x : Im} {l : List Im} (h : x ∈ l) : x.size ≤ Im.sizes l := sum_mem' Im.size h
theorem Im.len_sizes (l : List Im) : l.length ≤ Im.sizes l := len_sum' Im.size (fun x => by simp only [Im.size]; omega) l
instance : Inhabited Im := ⟨⟨⟨#[]⟩, ⟨#[]⟩, []⟩⟩
structure Ac where
  name : ByteArray
  names : List ByteArray
  types : List Y
  msg : Y
  body : Ex
def Ac.ts : Ac → List T
  | ⟨f_name, f_names, f_types, f_msg, f_body⟩ => [.lit (.string f_name), strRow f_names, Y.row f_types] ++ f_msg.ts ++ f_body.ts
theorem Ac.ts_len (x : Ac) : x.ts.length = 14 := by simp [Ac.ts, Ex.ts_len, Y.ts_len]
def Ac.t (x : Ac) : T := .agg x.ts
def Ac.row (l : List Ac) : T := .row l.length 14 (l.flatMap Ac.ts)
theorem Ac.at {l : List Ac} {k : Nat} {x : Ac} (h : l[k]? = some x) : ((l.flatMap Ac.ts).drop (k * 14)).take 14 = x.ts := flat_at Ac.ts 14 Ac.ts_len h
def Ac.size : Ac → Nat
  | ⟨f_name, f_names, f_types, f_msg, f_body⟩ => f_name.size + strSize f_names + Y.sizes f_types + f_msg.size + f_body.size + 1
def Ac.sizes (l : List Ac) : Nat := (l.map Ac.size).sum
theorem Ac.size_mem {x : Ac} {l : List Ac} (h : x ∈ l) : x.size ≤ Ac.sizes l := sum_mem' Ac.size h
theorem Ac.len_sizes (l : List Ac) : l.length ≤ Ac.sizes l := len_sum' Ac.size (fun x => by simp only [Ac.size]; omega) l
instance : Inhabited Ac := ⟨⟨⟨#[]⟩, [], [], default, default⟩⟩
structure Pr where
  name : ByteArray
  version : Int
  uses : List Us
  datas : List Da
  traits : List Tr
  impls : List Im
  funcs : List Fu
  actors : List Ac
def Pr.ts : Pr → List T
  | ⟨f_name, f_version, f_uses, f_datas, f_traits, f_impls, f_funcs, f_actors⟩ => [.lit (.string f_name), .lit (.int .i64 f_version), Us.row f_uses, Da.row f_datas, Tr.row f_traits, Im.row f_impls, Fu.row f_funcs, Ac.row f_actors]
theorem Pr.ts_len (x : Pr) : x.ts.length = 8 := by simp [Pr.ts]
def Pr.t (x : Pr) : T := .agg x.ts
def Pr.row (l : List Pr) : T := .row l.length 8 (l.flatMap Pr.ts)
theorem Pr.at {l : List Pr} {k : Nat} {x : Pr} (h : l[k]? = some x) : ((l.flatMap Pr.ts).drop (k * 8)).take 8 = x.ts := flat_at Pr.ts 8 Pr.ts_len h
def Pr.size : Pr → Nat
  | ⟨f_name, _, f_uses, f_datas, f_traits, f_impls, f_funcs, f_actors⟩ => f_name.size + Us.sizes f_uses + Da.sizes f_datas + Tr.sizes f_traits + Im.sizes f_impls + Fu.sizes f_funcs + Ac.sizes f_actors + 1
def Pr.sizes (l : List Pr) : Nat := (l.map Pr.size).sum
theorem Pr.size_mem {x : Pr} {l : List Pr} (h : x ∈ l) : x.size ≤ Pr.sizes l := sum_mem' Pr.size h
theorem Pr.len_sizes (l : List Pr) : l.length ≤ Pr.sizes l := len_sum' Pr.size (fun x => by simp only [Pr.size]; omega) l
instance : Inhabited Pr := ⟨⟨⟨#[]⟩, 0, [], [], [], [], [], []⟩⟩
end Go.Proofs.Ytmdmgpnaiknlaaa
namespace Go.Proofs.Ytmdmgpnaiknlaaa
open Go.RowKit
inductive Sc where
  | nil
  | mk (params : List ByteArray) (args : List Y) (outer : Sc)
def Sc.t : Sc → T
  | .nil => .lit (.pointer none)
  | .mk ps ars o => .pin [strRow ps, Y.row ars, o.t] 0
def Y.kind : Y → Int
  | .mk k _ _ => k
def Y.name : Y → ByteArray
  | .mk _ n _ => n
/-- the place of a name among names -/
def posOf (s : ByteArray) (l : List ByteArray) : Int := idxI (fun x => decide (s = x)) l
def res (y : Y) : Sc → Y × Sc
  | .nil => (y, .nil)
  | .mk ps ars o => if y.kind = 5 then (if posOf y.name ps < 0 then (y, .mk ps ars o) else match ars[(posOf y.name ps).toNat]? with | some z => res z o | none => (y, .mk ps ars o)) else (y, .mk ps ars o)
set_option maxRecDepth 100000 in
set_option maxHeartbeats 1000000 in
theorem idxStr_af (l : List ByteArray) (s : ByteArray) : AF Try.prog 34 [strRow l, .lit (.string s)] (· = .lit (.int .i64 (posOf s l))) := by
  refine af_enter tok Try.func34 Try.ntmps34 Try.results34 rfl (by kernel_rfl) rfl rfl fun F hX => ?_
  repeat (first | refine gG ?_ | refine zN1 (fun hlen => ?_) | refine zN2 (fun hlen => ?_))
  refine x_loop [4, 5, 8, 9, 10, 11, 12, 13, 14, 15, 16, 17, 18] (fun k : Nat => [(8, .c (.lit (.int .i64 k)))]) (fun _ => []) (fun k => k ≤ l.length ∧ idxAt (fun x => decide (s = x)) l k) (fun k => l.length - k) 0 ⟨Nat.zero_le _, idxAt_zero _ l⟩ ⟨rfl, trivial⟩ rfl fun k hk => ?_
  repeat (first | refine gG ?_ | refine zN1 (fun hlen => ?_) | refine zN2 (fun hlen => ?_))
  refine x_cond rfl (fun h => ?_) (fun h => ?_)
  · have hk' : k < l.length := by simpa using h
    obtain ⟨a, ha⟩ := nth hk'
    have hat := str_at ha
    rw [← Nat.mul_one k] at hat
    repeat (first | refine gG ?_ | refine zN1 (fun hlen => ?_) | refine zN2 (fun hlen => ?_))
    refine zIx k hk' ?_
    repeat (first | refine gG ?_ | refine zN1 (fun hlen => ?_) | refine zN2 (fun hlen => ?_))
    refine zEl1 hat ?_
    cases hp : decide (s = a)
    · repeat (first | refine gG ?_ | refine zN1 (fun hlen => ?_) | refine zN2 (fun hlen => ?_))
      exact ⟨k + 1, ⟨hk', idxAt_no hk.2 ha hp⟩, by omega, x_wkd 0 ⟨rfl, trivial⟩ rfl (by repeat (first | exact ag_refl | refine ag_upd rfl ?_ | refine ag_at rfl rfl ?_))⟩
    · repeat (first | refine gG ?_ | refine zN1 (fun hlen => ?_) | refine zN2 (fun hlen => ?_))
      first | refine zR ?_ | refine zQ ?_
      rw [posOf, idxAt_yes hk.2 ha hp]; rfl
  · have hk' : k = l.length := by have : ¬ k < l.length := by simpa using h
                                  omega
    subst hk'
    repeat (first | refine gG ?_ | refine zN1 (fun hlen => ?_) | refine zN2 (fun hlen => ?_))
    first | refine zR ?_ | refine zQ ?_
    rw [posOf, idxAt_end hk.2]; rfl
/-- the first data of a name -/
def Pr.data (p : Pr) (n : ByteArray) : Option Da := p.datas.find? fun d => decide (d.name = n)
def codeOf : Option Da → Int
  | some _ => 0
  | none => 11
def noDa : Da := ⟨⟨#[]⟩, [], []⟩
set_option maxRecDepth 100000 in
set_option maxHeartbeats 1000000 in
theorem data_af (p : Pr) (n : ByteArray) : AF Try.prog 48 [p.t, .lit (.string n)] (· = .tup [((p.data n).getD noDa).t, .lit (.int .i64 (codeOf (p.data n)))]) := by
  obtain ⟨pn, pv, us, das, trs, ims, fus, acs⟩ := p
  unfold Pr.data
  dsimp only
  refine af_enter tok Try.func48 Try.ntmps48 Try.results48 rfl (by kernel_rfl) rfl rfl fun F hX => ?_
  repeat (first | refine gG ?_ | refine zN1 (fun hlen => ?_) | refine zN2 (fun hlen => ?_) | refine zAl (fun _ => ?_) | refine zBx (fun _ => ?_))
  rename_i b0 b1
  refine x_loop [5, 7, 11, 12, 13, 14, 15, 16, 17, 18, 19, 20] (fun k : Nat => [(11, .c (.lit (.int .i64 k)))]) (fun _ => [.box b0 29 [.c (.lit (.string pn)), .c (.lit (.int .i64 pv)), .c (Us.row us), .c (Da.row das), .c (Tr.row trs), .c (Im.row ims), .c (Fu.row fus), .c (Ac.row acs)], .box b1 66 [.c (.lit (.string ⟨#[]⟩)), .c (.lit (.slice none 0 0)), .c (.lit (.slice none 0 0))]]) (fun k => k ≤ das.length ∧ das.find? (fun d => decide (d.name = n)) = (das.drop k).find? fun d => decide (d.name = n)) (fun k => das.length - k) 0 ⟨Nat.zero_le _, rfl⟩ ⟨rfl, trivial⟩ rfl fun k hk => ?_
  repeat (first | refine gG ?_ | refine zN1 (fun hlen => ?_) | refine zN2 (fun hlen => ?_) | refine zAl (fun _ => ?_) | refine zBx (fun _ => ?_))
  refine x_cond rfl (fun h => ?_) (fun h => ?_)
  · have hk' : k < das.length := by simpa using h
    obtain ⟨a, ha⟩ := nth hk'
    have hdr : (das.drop k).find? (fun d => decide (d.name = n)) = if decide (a.name = n) then some a else (das.drop (k + 1)).find? fun d => decide (d.name = n) := by
      obtain ⟨h1, rfl⟩ := List.getElem?_eq_some_iff.1 ha
      rw [List.drop_eq_getElem_cons h1, List.find?_cons]
      split <;> simp_all
    repeat (first | refine gG ?_ | refine zN1 (fun hlen => ?_) | refine zN2 (fun hlen => ?_) | refine zAl (fun _ => ?_) | refine zBx (fun _ => ?_))
    refine zIx (k) (hk') ?_
    repeat (first | refine gG ?_ | refine zN1 (fun hlen => ?_) | refine zN2 (fun hlen => ?_) | refine zAl (fun _ => ?_) | refine zBx (fun _ => ?_))
    refine zEl (Da.at ha) (Da.ts_len a) ?_
    obtain ⟨dn, dps, mks⟩ := a
    dsimp only at hdr
    cases hp : decide (dn = n)
    · repeat (first | refine gG ?_ | refine zN1 (fun hlen => ?_) | refine zN2 (fun hlen => ?_) | refine zAl (fun _ => ?_) | refine zBx (fun _ => ?_))
      exact ⟨k + 1, ⟨hk', by rw [hk.2, hdr, hp]; rfl⟩, by omega, x_wkd 2 ⟨rfl, trivial⟩ rfl (by repeat (first | exact ag_refl | refine ag_upd rfl ?_ | refine ag_at rfl rfl ?_))⟩
    · have hf : das.find? (fun d => decide (d.name = n)) = some ⟨dn, dps, mks⟩ := by rw [hk.2, hdr, hp]; rfl
      rw [hf]
      repeat (first | refine gG ?_ | refine zN1 (fun hlen => ?_) | refine zN2 (fun hlen => ?_) | refine zAl (fun _ => ?_) | refine zBx (fun _ => ?_))
      first | refine zR ?_ | refine zQ ?_
      rfl
  · have hk' : k = das.length := by have : ¬ k < das.length := by simpa using h
                                    omega
    subst hk'
    have hf : das.find? (fun d => decide (d.name = n)) = none := by rw [hk.2, List.drop_length]; rfl
    rw [hf]
    repeat (first | refine gG ?_ | refine zN1 (fun hlen => ?_) | refine zN2 (fun hlen => ?_) | refine zAl (fun _ => ?_) | refine zBx (fun _ => ?_))
    first | refine zR (ts := [noDa.t, .lit (.int .i64 11)]) ?_ | refine zQ (ts := [noDa.t, .lit (.int .i64 11)]) ?_
    rfl
end Go.Proofs.Ytmdmgpnaiknlaaa
