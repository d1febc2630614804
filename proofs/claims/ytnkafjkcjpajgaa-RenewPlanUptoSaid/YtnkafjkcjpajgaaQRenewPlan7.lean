/-
  Texts of this proof, part 7: Ab43 Ab45 Ab46 Vpa.
-/
import Derived.Test.YtnkafjkcjpajgaaQRenewPlan6
import Derived.Laws.IdiomRangeMap
import Derived.Lib.AppendStr
import Derived.Lib.AppendZerosOnto
import Derived.Lib.MinMax
namespace Go.Proofs.Ytnkafjkcjpajgaa
open Go.RowKit
theorem leftOf_mem {l : List MapEntry} {seen : Array Nat} {e : MapEntry} (h : e ∈ (leftOf l.toArray seen).toList) : e ∈ l ∧ e.born ∉ seen.toList := by
  have h1 := mem_left h
  refine ⟨by simpa using h1.1, ?_⟩
  have := h1.2
  rw [Array.contains_eq_mem, decide_eq_false_iff_not] at this
  simpa using this
theorem leftOf_none {l : List MapEntry} {seen : Array Nat} (h : (leftOf l.toArray seen).size = 0) : ∀ e ∈ l, e.born ∈ seen.toList := by
  intro e he
  have h1 : leftOf l.toArray seen = #[] := Array.eq_empty_of_size_eq_zero h
  unfold leftOf at h1
  rw [Array.filter_eq_empty_iff] at h1
  have := h1 e (by simpa using he)
  simpa using this
theorem nodup_map_inj {α β : Type} {f : α → β} : ∀ {l : List α} (_ : (l.map f).Nodup) {i j : Nat} (hi : i < l.length) (hj : j < l.length), f l[i] = f l[j] → i = j := by
  intro l h i j hi hj he
  have hp : (l.map f).Pairwise (· ≠ ·) := h
  have hg := List.pairwise_iff_getElem.1 hp
  rcases Nat.lt_trichotomy i j with hl | hl | hl
  · exact absurd (by rw [List.getElem_map, List.getElem_map]; exact he) (hg i j (by simpa using hi) (by simpa using hj) hl)
  · exact hl
  · exact absurd (by rw [List.getElem_map, List.getElem_map]; exact he.symm) (hg j i (by simpa using hj) (by simpa using hi) hl)
section
variable {P : Program} {F : Frm} {d : Option Tmp} {ty : TypeId} {pos : String} {aft : Array Edge} {g : Option (Nat × Bool)} {ρ : Operand → AV} {hp : List Blk} {K : AV → List Blk → Prop}
theorem lo_range {xT kT eT : TypeId} {x : Operand} {i b : Nat} {es : List (Value × T)} (hu : P.underlying xT = some (.map kT eT)) (hx : ρ x = .own i (.map (some b))) (hi : hp[i]? = some (.mp b es))
    (h : ∀ b' st c, st.length = es.length → K (.ptr hp.length b' 0) (hp.set i (.mpx b es (some (st, c))) ++ [.it b' b st c []])) : LO P F ⟨d, .range xT x, ty, pos, aft, g⟩ ρ hp K := by
  refine ⟨fun M e w he hh => ?_⟩
  have h1 := he x (by first | (simp [Op.operands]; done) | simp [Op.operands, Call.operands])
  rw [hx] at h1
  simp only [RA] at h1
  obtain ⟨es', clock, hb, hkeys, hvals, hstm, hst⟩ := hh.at_ i _ hi
  have hlen : es'.length = es.length := by simpa using congrArg List.length hkeys
  have hrun := run_range_map (P := P) w xT kT eT b es'.toArray clock hu hb
  have hil : i < hp.length := (List.getElem?_eq_some_iff.1 hi).1
  have hh2 : HeapOk F M (hp.set i (.mpx b es (some (es'.map (·.born), clock)))) w := by
    have hg : ∀ (j : Nat) (x : Blk), (hp.set i (.mpx b es (some (es'.map (·.born), clock))))[j]? = some x → ∃ y, hp[j]? = some y ∧ x.blk = y.blk ∧ BlkOk M w x := by
      intro j x hj
      by_cases hij : i = j
      · subst hij
        rw [List.getElem?_set_self hil] at hj
        obtain rfl : _ = x := by injection hj
        exact ⟨_, hi, rfl, ⟨es', clock, hb, hkeys, hvals, hstm, fun s hs => by simpa using hs.symm⟩⟩
      · rw [List.getElem?_set_ne hij] at hj
        exact ⟨x, hj, rfl, hh.at_ j x hj⟩
    refine ⟨hh.mem, hh.ext, hh.frm, fun j x hj => (hg j x hj).choose_spec.2.2, fun j k x y q hj hk hx hy => ?_, fun j x q hj hq => ?_⟩
    · obtain ⟨x', h3, h4, -⟩ := hg j x hj
      obtain ⟨y', h5, h6, -⟩ := hg k y hk
      exact hh.sep j k x' y' q h3 h5 (by rw [← h4]; exact hx) (by rw [← h6]; exact hy)
    · obtain ⟨x', h3, h4, -⟩ := hg j x hj
      exact hh.out j x' q h3 (by rw [← h4]; exact hq)
  have hrun2 : (execOp e ⟨d, .range xT x, ty, pos, aft, g⟩).run P w = .ok (.value (.pointer (some ⟨w.heap.size, 0, none⟩))) (w.alloc (.mapIter (some b) clock #[] clock)) := by
    simp [execOp, h1.1, hrun]
  rw [hrun2]
  have hk := h w.heap.size (es'.map (·.born)) clock (by simpa using hlen)
  refine ⟨M, _, _, hk, Ext.refl _ _, ?_, by simp only [RA]⟩
  have hl2 : (hp.set i (.mpx b es (some (es'.map (·.born), clock)))).length = hp.length := List.length_set
  refine hh2.step hp.length rfl rfl rfl (by simp) (fun b hb _ => Below.heap_alloc _ _ _ hb) (Ext.refl _ _) (fun p v h1 h2 => by rw [h2] at h1; cases h1) (fun j hj => ?_) (fun x' hx' => ?_)
  · rcases Nat.lt_or_ge j hp.length with h | h
    · rw [List.getElem?_append_left (by rw [hl2]; exact h)]
    · rw [List.getElem?_eq_none (by rw [List.length_append, hl2]; simp only [List.length_cons, List.length_nil]; omega), List.getElem?_eq_none (by rw [hl2]; omega)]
  · rw [List.getElem?_append_right (by rw [hl2]; exact Nat.le_refl _), hl2] at hx'
    obtain rfl : _ = x' := by simpa using hx'
    refine ⟨⟨heap_alloc_new w _, fun p hp => by cases hp⟩, fun q hq => .inr ?_⟩
    obtain rfl : w.heap.size = q := by simpa [Blk.blk] using hq
    refine ⟨Nat.le_refl _, fun p hp => ?_⟩
    cases hc : M p with
    | none => rfl
    | some v => have := World.block_lt_of_cell? w p (hh.mem p v hc).1; omega
theorem lo_next {x : Operand} {i j b b' c : Nat} {es : List (Value × T)} {st P' : List Nat} (hx : ρ x = .ptr i b' 0) (hi : hp[i]? = some (.it b' b st c P')) (hj : hp[j]? = some (.mpx b es (some (st, c))))
    (hdone : (∀ k, k < es.length → k ∈ P') → K (.c (.tup [.lit (.bool false)])) hp)
    (hmore : ∀ (k : Nat) (u : Value) (t : T), es[k]? = some (u, t) → k ∉ P' → K (.c (.tup [.lit (.bool true), .lit u, t])) (hp.set i (.it b' b st c (P' ++ [k])))) : LO P F ⟨d, .next x false, ty, pos, aft, g⟩ ρ hp K := by
  refine ⟨fun M e w he hh => ?_⟩
  have h1 := he x (by first | (simp [Op.operands]; done) | simp [Op.operands, Call.operands])
  rw [hx] at h1
  simp only [RA] at h1
  obtain ⟨es', clock, hb, hkeys, hvals, hstm, hst⟩ := hh.at_ j _ hj
  obtain ⟨hst1, rfl⟩ : st = es'.map (·.born) ∧ c = clock := by
    have := hst (st, c) rfl
    exact ⟨congrArg Prod.fst this, congrArg Prod.snd this⟩
  obtain ⟨hit, hPl⟩ : w.heap[b']? = some (.mapIter (some b) c (P'.map fun p => st.getD p 0).toArray c) ∧ ∀ p ∈ P', p < st.length := hh.at_ i _ hi
  have hlen : es'.length = es.length := by simpa using congrArg List.length hkeys
  have hil : i < hp.length := (List.getElem?_eq_some_iff.1 hi).1
  have hbl : b' < w.heap.size := (Array.getElem?_eq_some_iff.1 hit).1
  -- the step, told of any world
  have key : ((∀ e ∈ es', e.born ∈ (P'.map fun p => st.getD p 0)) ∧ (Instr.next (.pointer (some ⟨b', 0, none⟩)) false ty).run P w = .ok (.tuple #[.bool false]) w) ∨
      ∃ e ∈ es', e.born ∉ (P'.map fun p => st.getD p 0) ∧ ∃ n : Nat, (Instr.next (.pointer (some ⟨b', 0, none⟩)) false ty).run P w = .ok (.tuple #[.bool true, e.key, e.val]) { w with drawn := w.drawn + n, heap := w.heap.setIfInBounds b' (.mapIter (some b) c ((P'.map fun p => st.getD p 0) ++ [e.born]).toArray c) } := by
    have hold : ∀ x ∈ es', x.born < c := hstm.2
    generalize (P'.map fun p => st.getD p 0) = seenl at hit ⊢
    have hget : (getObj b' : Sem Obj).run P w = .ok (.mapIter (some b) c seenl.toArray c) w := by simp only [getObj, Sem.run, hit]
    have htest : (!seenl.toArray.isEmpty && !es'.toArray.isEmpty && es'.toArray.all (fun x => decide (x.born ≥ c))) = false := next_test_false seenl.toArray es'.toArray c c (fun x hx => hold x (by simpa using hx)) (Nat.le_refl _)
    have hLm : ∀ x ∈ (leftOf es'.toArray seenl.toArray).toList, x ∈ es' ∧ x.born ∉ seenl := fun x hx => by
      have := leftOf_mem hx
      simpa using this
    have hL0 : (leftOf es'.toArray seenl.toArray).size = 0 → ∀ e ∈ es', e.born ∈ seenl := fun h => by
      have := leftOf_none h
      simpa using this
    have hlf : leftOf es'.toArray seenl.toArray = Array.filter (fun e => !seenl.toArray.contains e.born) es'.toArray := rfl
    simp only [Instr.next, Sem.run_bind, hget, MapKept.run_getObj_map hb, Result.andThen, htest, Bool.false_eq_true, if_false]
    rw [← hlf]
    generalize leftOf es'.toArray seenl.toArray = L at hLm hL0 ⊢
    have e1 : L.filter (fun x => decide (x.born < c)) = L := Array.filter_eq_self.2 (fun x hx => by simpa using hold x (hLm x (by simpa using hx)).1)
    have e2 : L.filter (fun x => decide (x.born ≥ c)) = #[] := by
      rw [Array.filter_eq_empty_iff]
      intro x hx
      have := hold x (hLm x (by simpa using hx)).1
      simp
      omega
    simp only [e1, e2, Array.append_empty]
    by_cases h0 : L.size = 0
    · left
      have : L = #[] := Array.eq_empty_of_size_eq_zero h0
      refine ⟨hL0 h0, ?_⟩
      subst this
      simp [choose, Sem.run, Question.forced]
    · right
      have hne : L.isEmpty = false := by simp [Array.isEmpty, h0]
      simp only [hne, Bool.false_eq_true, if_false, Array.empty_append, Array.size_map]
      have hch : ∃ (q n : Nat), q < L.size ∧ (choose (Question.mapNext L.size)).run P w = .ok q { w with drawn := w.drawn + n } := by
        by_cases hf : L.size ≤ 1
        · exact ⟨0, 0, by omega, by simp [choose, Sem.run, Question.forced, hf]⟩
        · exact ⟨_, 1, Nat.mod_lt _ (by omega), by
            simp only [choose, Sem.run, Question.forced, decide_eq_true_eq, hf, if_false, Question.cut]
            rfl⟩
      obtain ⟨q, n, hq, hrun⟩ := hch
      have hmem := hLm L[q] (by simp)
      refine ⟨L[q], hmem.1, hmem.2, n, ?_⟩
      have hset : ∀ o' : Obj, (setObj b' o').run P { w with drawn := w.drawn + n } = .ok () { w with drawn := w.drawn + n, heap := w.heap.setIfInBounds b' o' } := fun o' => by
        simp only [setObj, Sem.run, hit]
      simp only [hrun, Array.getElem?_map, Array.getElem?_eq_getElem hq, Option.map_some, Sem.run_bind, hset, Result.andThen]
      simp
  rcases key with ⟨hall, hrun⟩ | ⟨e0, hm, hn, n, hrun⟩
  · have hrun2 : (execOp e ⟨d, .next x false, ty, pos, aft, g⟩).run P w = .ok (.value (.tuple #[.bool false])) w := by
      simp [execOp, h1, hrun]
    rw [hrun2]
    refine ⟨M, _, _, hdone (fun k hk => ?_), Ext.refl _ _, hh, by simp only [RA, RT, RTs]; exact ⟨[.bool false], rfl, _, _, rfl, rfl, rfl⟩⟩
    have hk' : k < es'.length := by omega
    have := hall es'[k] (List.getElem_mem hk')
    obtain ⟨p, hp, hpe⟩ := List.mem_map.1 this
    have hpl := hPl p hp
    rw [hst1, List.length_map] at hpl
    rw [hst1, List.getD_eq_getElem?_getD, List.getElem?_map, List.getElem?_eq_getElem hpl] at hpe
    have : p = k := nodup_map_inj hstm.1 hpl hk' hpe
    rw [← this]; exact hp
  · obtain ⟨k, hk, rfl⟩ := List.getElem_of_mem hm
    have hk2 : k < es.length := by omega
    have hkey : es'[k].key = es[k].1 := by
      have := congrArg (fun l => l[k]?) hkeys
      simpa [List.getElem?_map, List.getElem?_eq_getElem hk, List.getElem?_eq_getElem hk2] using this
    have hkP : k ∉ P' := fun h => hn (List.mem_map.2 ⟨k, h, by rw [hst1, List.getD_eq_getElem?_getD, List.getElem?_map, List.getElem?_eq_getElem hk]; rfl⟩)
    obtain ⟨u, hu1, hu2⟩ := hvals.get (j := k) (t := es[k].2) (by rw [List.getElem?_map, List.getElem?_eq_getElem hk2]; rfl)
    rw [List.getElem?_map, List.getElem?_eq_getElem hk] at hu1
    obtain rfl : es'[k].val = u := by simpa using hu1
    have hrun2 : (execOp e ⟨d, .next x false, ty, pos, aft, g⟩).run P w = .ok (.value (.tuple #[.bool true, es'[k].key, es'[k].val])) { w with drawn := w.drawn + n, heap := w.heap.setIfInBounds b' (.mapIter (some b) c ((P'.map fun p => st.getD p 0) ++ [es'[k].born]).toArray c) } := by
      simp [execOp, h1, hrun]
    rw [hrun2]
    refine ⟨M, _, _, hmore k es[k].1 es[k].2 (List.getElem?_eq_getElem hk2) hkP, Ext.refl _ _, ?_, by simp only [RA, RT, RTs]; exact ⟨[.bool true, es'[k].key, es'[k].val], rfl, _, _, rfl, rfl, _, _, rfl, hkey, _, _, rfl, hu2, rfl⟩⟩
    refine hh.step i rfl rfl rfl (by simp) (fun q hq hne => ?_) (Ext.refl _ _) (fun p v h1 h2 => by rw [h2] at h1; cases h1) (fun q hq => by rw [List.getElem?_set_ne (Ne.symm hq)]) (fun x' hx' => ?_)
    · have : q ≠ b' := fun e => hne _ hi (by rw [e]; rfl)
      simp [Array.getElem?_setIfInBounds, Ne.symm this]
    · rw [List.getElem?_set_self hil] at hx'
      obtain rfl : _ = x' := by injection hx'
      refine ⟨⟨?_, fun p hp => ?_⟩, fun q hq => .inl ⟨_, hi, hq⟩⟩
      · have : (P' ++ [k]).map (fun p => st.getD p 0) = (P'.map fun p => st.getD p 0) ++ [es'[k].born] := by
          rw [List.map_append, hst1]
          simp [List.getD_eq_getElem?_getD, List.getElem?_map, List.getElem?_eq_getElem hk]
        rw [this]
        simp [Array.getElem?_setIfInBounds, hbl]
      · rcases List.mem_append.1 hp with hp | hp
        · exact hPl p hp
        · rw [List.mem_singleton.1 hp, hst1, List.length_map]; exact hk
end
section
variable {P : Program} {F : Frm} {d : Option Tmp} {ty : TypeId} {pos : String} {aft : Array Edge} {g : Option (Nat × Bool)} {ρ : Operand → AV} {hp : List Blk} {K : AV → List Blk → Prop}
theorem zRg (kT eT : TypeId) {xT : TypeId} {x : Operand} {i b n : Nat} {es : List (Value × T)} {hp' : Nat → List Nat → Nat → List Blk} (h : ∀ b' st c, st.length = es.length → K (.ptr n b' 0) (hp' b' st c)) (hu : isMap P xT = some (kT, eT) := by kernel_rfl) (hn : lenU hp = some n := by exact rfl) (hx : ρ x = .own i (.map (some b)) := by exact rfl) (hi : hp[i]? = some (.mp b es) := by exact rfl)
    (hf : ∀ b' st c, evl (hp.set i (.mpx b es (some (st, c))) ++ [.it b' b st c []]) = some (hp' b' st c) := by exact fun _ _ _ => rfl) : LO P F ⟨d, .range xT x, ty, pos, aft, g⟩ ρ hp K :=
  lo_range (isMap_eq hu) hx hi fun b' st c hl => by rw [← evl_eq (hf b' st c), ← lenU_eq hn]; exact h b' st c hl
theorem zNx {x : Operand} {i b b' c : Nat} {es : List (Value × T)} {st P' : List Nat} {hp' : Nat → List Blk} (j : Nat) (hdone : (∀ k, k < es.length → k ∈ P') → K (.c (.tup [.lit (.bool false)])) hp)
    (hmore : ∀ (k : Nat) (u : Value) (t : T), es[k]? = some (u, t) → k ∉ P' → K (.c (.tup [.lit (.bool true), .lit u, t])) (hp' k)) (hx : ρ x = .ptr i b' 0 := by exact rfl) (hi : hp[i]? = some (.it b' b st c P') := by exact rfl) (hj : hp[j]? = some (.mpx b es (some (st, c))) := by exact rfl)
    (hf : ∀ k, evl (hp.set i (.it b' b st c (P' ++ [k]))) = some (hp' k) := by exact fun _ => rfl) : LO P F ⟨d, .next x false, ty, pos, aft, g⟩ ρ hp K :=
  lo_next hx hi hj hdone fun k u t h1 h2 => by rw [← evl_eq (hf k)]; exact hmore k u t h1 h2
/-- a map's entry that is there is written while the map is walked over -/
theorem zUpw (kT eT : TypeId) {xT : TypeId} {x y z : Operand} {i b : Nat} {s : ByteArray} {l : List (ByteArray × T)} {t : T} {o : Option (List Nat × Nat)} {hp' : List Blk} (ho : (mget s l).isSome = true) (h : K (.c (.lit undef)) hp') (hu : isMap P xT = some (kT, eT) := by kernel_rfl) (hk : P.underlying kT = some .string := by kernel_rfl) (hx : ρ x = .own i (.map (some b)) := by exact rfl) (hi : hp[i]? = some (.mpx b (mkeys Value.string l) o) := by exact rfl) (hy : ρ y = .c (.lit (.string s)) := by exact rfl) (hv : ρ z = .c t := by exact rfl) (hf : evl (hp.set i (.mpx b (mkeys Value.string (mput s t l)) o)) = some hp' := by exact rfl) :
    LO P F ⟨d, .mapUpdate xT x y z, ty, pos, aft, g⟩ ρ hp K := lo_mapUpdate keyStr (isMap_eq hu) hk hx hi hy (fun M u h => by rw [hv] at h; simpa only [RA] using h) (.inr ho) (by rw [← evl_eq hf]; exact h)
end
theorem heap_unit {F : Frm} {M : Mm} {hp : List Blk} {w : World} {i b : Nat} {es : List (Value × T)} {o : Option (List Nat × Nat)} (h : HeapOk F M hp w) (hi : hp[i]? = some (.mpx b es o)) : HeapOk F M (hp.set i (.mp b es)) w := by
  have hil : i < hp.length := (List.getElem?_eq_some_iff.1 hi).1
  have hg : ∀ (j : Nat) (x : Blk), (hp.set i (.mp b es))[j]? = some x → ∃ y, hp[j]? = some y ∧ x.blk = y.blk ∧ BlkOk M w x := by
    intro j x hj
    by_cases hij : i = j
    · subst hij
      rw [List.getElem?_set_self hil] at hj
      obtain rfl : _ = x := by injection hj
      obtain ⟨l, clock, h1, h2, h3, h4, -⟩ := h.at_ i _ hi
      exact ⟨_, hi, rfl, ⟨l, clock, h1, h2, h3, h4, fun s hs => by cases hs⟩⟩
    · rw [List.getElem?_set_ne hij] at hj
      exact ⟨x, hj, rfl, h.at_ j x hj⟩
  refine ⟨h.mem, h.ext, h.frm, fun j x hj => (hg j x hj).choose_spec.2.2, fun j k x y q hj hk hx hy => ?_, fun j x q hj hq => ?_⟩
  · obtain ⟨x', h3, h4, -⟩ := hg j x hj
    obtain ⟨y', h5, h6, -⟩ := hg k y hk
    exact h.sep j k x' y' q h3 h5 (by rw [← h4]; exact hx) (by rw [← h6]; exact hy)
  · obtain ⟨x', h3, h4, -⟩ := hg j x hj
    exact h.out j x' q h3 (by rw [← h4]; exact hq)
section
variable {P : Program} {F : Frm} {τ : Nat → AV} {hp : List Blk} {N : Nat} {Q : Exit → AS → Prop}
theorem wk_unit (i : Nat) {b : Nat} {es : List (Value × T)} {o : Option (List Nat × Nat)} (hi : hp[i]? = some (.mpx b es o)) : Wk F ⟨τ, hp, N⟩ ⟨τ, hp.set i (.mp b es), N⟩ := by
  intro M a w hr
  exact ⟨M, hr.tmps, hr.size, hr.defers, heap_unit hr.heap hi⟩
theorem x_unit {c : Go.Code} (i : Nat) {b : Nat} {es : List (Value × T)} {o : Option (List Nat × Nat)} {hp' : List Blk} (hq : AC P F c Q ⟨τ, hp', N⟩) (hi : hp[i]? = some (.mpx b es o) := by exact rfl) (hf : evl (hp.set i (.mp b es)) = some hp' := by exact rfl) : AC P F c Q ⟨τ, hp, N⟩ := ac_wk (wk_unit i hi) (by rw [← evl_eq hf]; exact hq)
end
end Go.Proofs.Ytnkafjkcjpajgaa
namespace Go.Proofs.Ytnkafjkcjpajgaa
open Go.RowKit
section
variable {α β : Type}
def mapT (f : β → T) (l : List (α × β)) : List (α × T) := l.map fun p => (p.1, f p.2)
end
section
variable {α β : Type} [DecidableEq α]
def gget (k : α) : List (α × β) → Option β
  | [] => none
  | (k', b) :: l => if k = k' then some b else gget k l
def gput (k : α) (b : β) : List (α × β) → List (α × β)
  | [] => [(k, b)]
  | (k', b') :: l => if k = k' then (k, b) :: l else (k', b') :: gput k b l
theorem mget_T (f : β → T) (k : α) : ∀ l : List (α × β), mget k (mapT f l) = (gget k l).map f
  | [] => rfl
  | (k', b) :: l => by
    show (if k = k' then some (f b) else mget k (mapT f l)) = _
    rw [mget_T f k l, gget]
    split <;> rfl
theorem mput_T (f : β → T) (k : α) (b : β) : ∀ l : List (α × β), mput k (f b) (mapT f l) = mapT f (gput k b l)
  | [] => rfl
  | (k', b') :: l => by
    show (if k = k' then (k, f b) :: mapT f l else (k', f b') :: mput k (f b) (mapT f l)) = _
    rw [mput_T f k b l, gput]
    split <;> rfl
theorem gget_put (k k' : α) (b : β) : ∀ l : List (α × β), gget k (gput k' b l) = if k = k' then some b else gget k l
  | [] => by simp [gput, gget]
  | (k2, b2) :: l => by
    simp only [gput]
    by_cases h : k' = k2
    · subst h
      simp only [if_true, gget]
      split <;> rfl
    · simp only [if_neg h, gget, gget_put k k' b l]
      by_cases h2 : k = k2
      · subst h2
        simp [Ne.symm h]
      · simp [h2]
theorem gput_keys (k : α) (b : β) : ∀ l : List (α × β), (gput k b l).map (·.1) = if k ∈ l.map (·.1) then l.map (·.1) else l.map (·.1) ++ [k]
  | [] => by simp [gput]
  | (k', b') :: l => by
    rw [gput]
    by_cases h : k = k'
    · rw [if_pos h, if_pos (by rw [h]; simp)]
      simp [h]
    · rw [if_neg h, List.map_cons, gput_keys k b l]
      by_cases h2 : k ∈ l.map (·.1)
      · rw [if_pos h2, if_pos (by rw [List.map_cons]; exact List.mem_cons_of_mem _ h2)]
        rfl
      · rw [if_neg h2, if_neg (by rw [List.map_cons, List.mem_cons]; exact fun h3 => h3.elim h h2)]
        rfl
theorem gput_nodup {k : α} {b : β} {l : List (α × β)} (h : (l.map (·.1)).Nodup) : ((gput k b l).map (·.1)).Nodup := by
  rw [gput_keys]
  split
  · exact h
  · next hk =>
    rw [List.nodup_append]
    refine ⟨h, by simp, fun a ha b hb => ?_⟩
    rw [List.mem_singleton.1 hb]
    intro he; rw [he] at ha; exact hk ha
end
section
variable {P : Program} {F : Frm} {L : Tab} {d : Option Tmp} {ty : TypeId} {pos : String} {aft : Array Edge} {g : Option (Nat × Bool)} {ρ : Operand → AV} {hp : List Blk} {K : AV → List Blk → Prop} {te : TI} {x y : Operand} {i b : Nat} {o : Option (List Nat × Nat)} {xT : TypeId}
/-- an entry is written, the map told anew -/
theorem zUpt (kT eT : TypeId) {y z : Operand} {s : ByteArray} {l l' : List (ByteArray × T)} {t : T} {hp' : List Blk} (hl : mput s t l = l') (h : K (.c (.lit undef)) hp') (hu : isMap P xT = some (kT, eT) := by kernel_rfl) (hk : P.underlying kT = some .string := by kernel_rfl) (hx : ρ x = .own i (.map (some b)) := by exact rfl) (hi : hp[i]? = some (.mp b (mkeys Value.string l)) := by exact rfl) (hy : ρ y = .c (.lit (.string s)) := by exact rfl) (hz : Rzs [] [ρ z] [t] := by repeat (first | exact rzs_nil | apply rzs_cons | exact rz_c | exact rz_nil rfl | apply rz_agg | apply rz_fn | apply rz_tup)) (hf : evl (hp.set i (.mp b (mkeys Value.string l'))) = some hp' := by exact rfl) :
    LO P F ⟨d, .mapUpdate xT x y z, ty, pos, aft, g⟩ ρ hp K := lo_mapUpdate keyStr (isMap_eq hu) hk hx hi hy (fun M u h => by have := re_cls hz M u h; simpa only [RA] using this) (.inl rfl) (by rw [hl, ← evl_eq hf] at *; exact h)
end
end Go.Proofs.Ytnkafjkcjpajgaa
namespace Go.Proofs.Ytnkafjkcjpajgaa
open Go.RowKit
section
variable {P : Program} {F : Frm} {d : Option Tmp} {ty : TypeId} {pos : String} {aft : Array Edge} {g : Option (Nat × Bool)} {ρ : Operand → AV} {hp : List Blk} {K : AV → List Blk → Prop}
theorem lo_entry {x : Operand} {i j b b' c k : Nat} {es : List (Value × T)} {st P' : List Nat} {u : Value} {t : T} (hx : ρ x = .ptr i b' 0) (hi : hp[i]? = some (.it b' b st c (P' ++ [k]))) (hj : hp[j]? = some (.mpx b es (some (st, c)))) (hk : es[k]? = some (u, t))
    (h : K (.c (.tup [.lit u, t])) hp) : LO P F ⟨d, .entry x, ty, pos, aft, g⟩ ρ hp K := by
  refine LO.same (fun M e w he hh => ?_) h
  have h1 := he x (by first | (simp [Op.operands]; done) | simp [Op.operands, Call.operands])
  rw [hx] at h1
  simp only [RA] at h1
  obtain ⟨es', clock, hb, hkeys, hvals, hstm, hst⟩ := hh.at_ j _ hj
  obtain ⟨hst1, rfl⟩ : st = es'.map (·.born) ∧ c = clock := by
    have := hst (st, c) rfl
    exact ⟨congrArg Prod.fst this, congrArg Prod.snd this⟩
  obtain ⟨hit, -⟩ : w.heap[b']? = some (.mapIter (some b) c ((P' ++ [k]).map fun p => st.getD p 0).toArray c) ∧ ∀ p ∈ P' ++ [k], p < st.length := hh.at_ i _ hi
  have hlen : es'.length = es.length := by simpa using congrArg List.length hkeys
  obtain ⟨hk2, hke⟩ := List.getElem?_eq_some_iff.1 hk
  have hk1 : k < es'.length := by omega
  have hkey : es'[k].key = u := by
    have := congrArg (fun l => l[k]?) hkeys
    simp only [List.getElem?_map, List.getElem?_eq_getElem hk1, hk, Option.map_some, Option.some.injEq] at this
    exact this
  obtain ⟨z, hz1, hz2⟩ := hvals.get (j := k) (t := t) (by rw [List.getElem?_map, hk]; rfl)
  rw [List.getElem?_map, List.getElem?_eq_getElem hk1] at hz1
  obtain rfl : es'[k].val = z := by simpa using hz1
  have hborn : st.getD k 0 = es'[k].born := by rw [hst1]; simp [List.getD_eq_getElem?_getD, List.getElem?_map, List.getElem?_eq_getElem hk1]
  have hseen : ((P' ++ [k]).map fun p => st.getD p 0) = (P'.map fun p => st.getD p 0) ++ [es'[k].born] := by
    rw [List.map_append, ← hborn]; rfl
  rw [hseen] at hit
  have hfind := find_born es'[k] es' hstm.1 (List.getElem_mem hk1)
  have hback : (((P'.map fun p => st.getD p 0) ++ [es'[k].born]).toArray).back? = some es'[k].born := by simp
  generalize ((P'.map fun p => st.getD p 0) ++ [es'[k].born]).toArray = seen at *
  have hrun : (Instr.entry (.pointer (some ⟨b', 0, none⟩))).run P w = .ok (.tuple #[es'[k].key, es'[k].val]) w := by
    have hget : (getObj b' : Sem Obj).run P w = .ok (.mapIter (some b) c seen c) w := by simp only [getObj, Sem.run, hit]
    simp only [Instr.entry, Sem.run_bind, hget, MapKept.run_getObj_map hb, Result.andThen, hback, bne_self_eq_false, Bool.false_eq_true, if_false]
    have hf2 : es'.toArray.find? (fun e => e.born == es'[k].born) = some es'[k] := by rw [← Array.find?_toList]; exact hfind
    rw [hf2]
    rfl
  refine ⟨.tuple #[es'[k].key, es'[k].val], ?_, by simp only [RA, RT, RTs]; exact ⟨[es'[k].key, es'[k].val], rfl, _, _, rfl, hkey, _, _, rfl, hz2, rfl⟩⟩
  simp [execOp, h1, hrun]
theorem zEn {x : Operand} {i b b' c k : Nat} {es : List (Value × T)} {st P' : List Nat} {u : Value} {t : T} (j : Nat) (hk : es[k]? = some (u, t)) (h : K (.c (.tup [.lit u, t])) hp) (hx : ρ x = .ptr i b' 0 := by exact rfl) (hi : hp[i]? = some (.it b' b st c (P' ++ [k])) := by exact rfl) (hj : hp[j]? = some (.mpx b es (some (st, c))) := by exact rfl) : LO P F ⟨d, .entry x, ty, pos, aft, g⟩ ρ hp K :=
  lo_entry hx hi hj hk h
end
theorem walk_len {l : List Nat} {n : Nat} (h : l.Nodup) (hl : ∀ p ∈ l, p < n) : l.length ≤ n := by
  have := h.length_le_of_subset (l₂ := List.range n) fun x hx => List.mem_range.2 (hl x hx)
  simpa using this
theorem walk_snoc {l : List Nat} {n k : Nat} (h : l.Nodup) (hl : ∀ p ∈ l, p < n) (hk : k < n) (hn : k ∉ l) : (l ++ [k]).Nodup ∧ ∀ p ∈ l ++ [k], p < n := by
  refine ⟨?_, fun p hp => ?_⟩
  · rw [List.nodup_append]
    refine ⟨h, by simp, fun a ha b hb e => ?_⟩
    rw [List.mem_singleton.1 hb] at e
    rw [e] at ha; exact hn ha
  · rcases List.mem_append.1 hp with hp | hp
    · exact hl p hp
    · rw [List.mem_singleton.1 hp]; exact hk
theorem mk_at {β : Type} (f : β → T) {l : List (ByteArray × β)} {k : Nat} {u : Value} {t : T} (h : (mkeys Value.string (mapT f l))[k]? = some (u, t)) : ∃ n x, l[k]? = some (n, x) ∧ u = .string n ∧ t = f x := by
  simp only [mkeys, mapT, List.map_map, List.getElem?_map] at h
  cases hl : l[k]? with
  | none => rw [hl] at h; cases h
  | some p =>
    obtain ⟨n, x⟩ := p
    rw [hl] at h
    simp only [Option.map_some, Option.some.injEq, Function.comp, Prod.mk.injEq] at h
    exact ⟨n, x, rfl, h.1.symm, h.2.symm⟩
theorem mk_len {β : Type} (f : β → T) (l : List (ByteArray × β)) : (mkeys Value.string (mapT f l)).length = l.length := by simp [mkeys, mapT]
end Go.Proofs.Ytnkafjkcjpajgaa
namespace Go.Proofs.Ytnkafjkcjpajgaa
open Go.RowKit
def hasS (l : List ByteArray) (s : ByteArray) : Bool := l.any fun x => decide (x = s)
theorem hasS_app (l r : List ByteArray) (s : ByteArray) : hasS (l ++ r) s = (hasS l s || hasS r s) := by simp [hasS]
theorem hasS_one (x s : ByteArray) : hasS [x] s = decide (x = s) := by simp [hasS]
def SeenOk (m : List (ByteArray × T)) (out : List ByteArray) : Prop := ∀ s, (mget s m).getD (.lit (.bool false)) = .lit (.bool (hasS out s))
theorem SeenOk.put {m : List (ByteArray × T)} {out : List ByteArray} (h : SeenOk m out) (s : ByteArray) : SeenOk (mput s (.lit (.bool true)) m) (out ++ [s]) := by
  intro x
  rw [mget_put, hasS_app, hasS_one]
  by_cases hx : x = s
  · subst hx; simp
  · rw [if_neg hx, h x]; simp [Ne.symm hx]
theorem seenOk_nil : SeenOk [] [] := fun _ => rfl
def nmOk (A : ByteArray → Prop) (x y : List ByteArray) (k : Int) (n n' : ByteArray) : Prop := if k = 6 then n = n' ∧ A n else if k = 5 then ¬ posOf n x < 0 ∧ posOf n x = posOf n' y else n = ⟨#[]⟩ ∧ n' = ⟨#[]⟩
mutual
def Y.lk (A : ByteArray → Prop) (x y : List ByteArray) : Y → Y → Prop
  | .mk k n l, .mk k' n' l' => k = k' ∧ k ≠ 7 ∧ nmOk A x y k n n' ∧ Y.lks A x y l l'
def Y.lks (A : ByteArray → Prop) (x y : List ByteArray) : List Y → List Y → Prop
  | [], [] => True
  | a :: l, b :: r => Y.lk A x y a b ∧ Y.lks A x y l r
  | [], _ :: _ => False
  | _ :: _, [] => False
end
theorem lks_iff (A : ByteArray → Prop) (x y : List ByteArray) : ∀ l r : List Y, Y.lks A x y l r ↔ l.length = r.length ∧ ∀ (i : Nat) (a b : Y), l[i]? = some a → r[i]? = some b → a.lk A x y b
  | [], [] => by simp [Y.lks]
  | [], b :: r => by simp [Y.lks]
  | a :: l, [] => by simp [Y.lks]
  | a :: l, b :: r => by
    rw [Y.lks, lks_iff A x y l r]
    constructor
    · rintro ⟨h1, h2, h3⟩
      refine ⟨by simp [h2], fun i u v hu hv => ?_⟩
      cases i with
      | zero => simp at hu hv; subst hu; subst hv; exact h1
      | succ i => exact h3 i u v (by simpa using hu) (by simpa using hv)
    · rintro ⟨h2, h3⟩
      exact ⟨h3 0 a b rfl rfl, by simpa using h2, fun i u v hu hv => h3 (i + 1) u v (by simpa using hu) (by simpa using hv)⟩
theorem nmOk_mono {A B : ByteArray → Prop} (h : ∀ n, A n → B n) {x y : List ByteArray} {k : Int} {n n' : ByteArray} (hn : nmOk A x y k n n') : nmOk B x y k n n' := by
  unfold nmOk at *
  by_cases h6 : k = 6
  · rw [if_pos h6] at hn ⊢
    exact ⟨hn.1, h _ hn.2⟩
  · rw [if_neg h6] at hn ⊢
    exact hn
theorem lk_mono {A B : ByteArray → Prop} (h : ∀ n, A n → B n) {x y : List ByteArray} (a : Y) : ∀ {b : Y}, a.lk A x y b → a.lk B x y b := by
  induction a using Y.ind with
  | h k n l ih =>
    rintro ⟨k', n', l'⟩ ha
    rw [Y.lk] at ha ⊢
    obtain ⟨h1, h2, h3, h4⟩ := ha
    refine ⟨h1, h2, nmOk_mono h h3, ?_⟩
    rw [lks_iff] at h4 ⊢
    exact ⟨h4.1, fun i u v hu hv => ih u (List.mem_of_getElem? hu) (h4.2 i u v hu hv)⟩
theorem lks_mono {A B : ByteArray → Prop} (h : ∀ n, A n → B n) {x y : List ByteArray} {l r : List Y} (hl : Y.lks A x y l r) : Y.lks B x y l r := by
  rw [lks_iff] at hl ⊢
  exact ⟨hl.1, fun i u v hu hv => lk_mono h u (hl.2 i u v hu hv)⟩
def mkOk (A : ByteArray → Prop) (x y : List ByteArray) (m m' : Mk) : Prop := m.name = m'.name ∧ Y.lks A x y m.args m'.args
theorem mkOk_mono {A B : ByteArray → Prop} (h : ∀ n, A n → B n) {x y : List ByteArray} {m m' : Mk} (hm : mkOk A x y m m') : mkOk B x y m m' := ⟨hm.1, lks_mono h hm.2⟩
def msOk (A : ByteArray → Prop) (x y : List ByteArray) (l r : List Mk) : Prop := l.length = r.length ∧ ∀ (i : Nat) (a b : Mk), l[i]? = some a → r[i]? = some b → mkOk A x y a b
theorem msOk_mono {A B : ByteArray → Prop} (h : ∀ n, A n → B n) {x y : List ByteArray} {l r : List Mk} (hm : msOk A x y l r) : msOk B x y l r := ⟨hm.1, fun i a b ha hb => mkOk_mono h (hm.2 i a b ha hb)⟩
/-- the Datas of a name are alike where those of A are -/
def daOk (o w : Pr) (A : ByteArray → Prop) (n : ByteArray) : Prop := ∃ d f, o.data n = some d ∧ w.data n = some f ∧ d.params.length = f.params.length ∧ msOk A d.params f.params d.makes f.makes
theorem daOk_mono {A B : ByteArray → Prop} (h : ∀ n, A n → B n) {o w : Pr} {n : ByteArray} (hd : daOk o w A n) : daOk o w B n := by
  obtain ⟨d, f, h1, h2, h3, h4⟩ := hd
  exact ⟨d, f, h1, h2, h3, msOk_mono h h4⟩
/-- a set of names that stands by itself -/
def PF (o w : Pr) (A : ByteArray → Prop) : Prop := ∀ n, A n → daOk o w A n
def InS (s : List ByteArray) (n : ByteArray) : Prop := hasS s n = true
def Step (o w : Pr) (s s' : List ByteArray) : Prop := (∀ n, InS s n → InS s' n) ∧ ∀ n, InS s' n → hasS s n = false → daOk o w (InS s') n
theorem Step.refl (o w : Pr) (s : List ByteArray) : Step o w s s := ⟨fun _ h => h, fun n h1 h2 => by rw [InS, h2] at h1; cases h1⟩
theorem Step.trans {o w : Pr} {s s' t : List ByteArray} (h : Step o w s s') (g : Step o w s' t) : Step o w s t := by
  refine ⟨fun n hn => g.1 n (h.1 n hn), fun n hn hs => ?_⟩
  cases h1 : hasS s' n with
  | true => exact daOk_mono g.1 (h.2 n h1 hs)
  | false => exact g.2 n hn h1
/-- how a comparison ends: what was asked holds in the names marked by now, or it holds in no set that stands by itself -/
def Try (o w : Pr) (Q : (ByteArray → Prop) → Prop) (s : List ByteArray) (z : Bool) (s' : List ByteArray) : Prop := (z = true → Step o w s s' ∧ Q (InS s')) ∧ (z = false → ∀ A, PF o w A → ¬ Q A)
theorem Try.no {o w : Pr} {Q : (ByteArray → Prop) → Prop} {s s' : List ByteArray} (h : ∀ A, PF o w A → ¬ Q A) : Try o w Q s false s' := ⟨fun h => by simp at h, fun _ => h⟩
theorem Try.yes {o w : Pr} {Q : (ByteArray → Prop) → Prop} {s s' : List ByteArray} (h : Step o w s s') (q : Q (InS s')) : Try o w Q s true s' := ⟨fun _ => ⟨h, q⟩, fun h => by simp at h⟩
theorem Try.of_no {o w : Pr} {Q Q' : (ByteArray → Prop) → Prop} {s s' s1 : List ByteArray} (h : Try o w Q s false s') (hq : ∀ A, Q' A → Q A) : Try o w Q' s1 false s' := .no fun A hA hQ => h.2 rfl A hA (hq A hQ)
/-- the Datas of the old program that were not looked at -/
def leftD (o : Pr) (s : List ByteArray) : Nat := (o.datas.filter fun d => !hasS s d.name).length
theorem filter_le {α : Type} (p q : α → Bool) : ∀ (l : List α), (∀ a ∈ l, p a = true → q a = true) → (l.filter p).length ≤ (l.filter q).length
  | [], _ => Nat.le_refl _
  | a :: l, h => by
    have ih := filter_le p q l fun b hb => h b (List.mem_cons_of_mem _ hb)
    have h1 := h a List.mem_cons_self
    rw [List.filter_cons, List.filter_cons]
    cases hp : p a
    · cases q a <;> simp <;> omega
    · rw [h1 hp]; simp; omega
theorem filter_lt {α : Type} (p q : α → Bool) : ∀ (l : List α), (∀ a ∈ l, p a = true → q a = true) → (∃ a ∈ l, p a = false ∧ q a = true) → (l.filter p).length < (l.filter q).length
  | [], _, h => by obtain ⟨a, h, _⟩ := h; cases h
  | a :: l, h, hx => by
    have hl := filter_le p q l fun b hb => h b (List.mem_cons_of_mem _ hb)
    have h1 := h a List.mem_cons_self
    rw [List.filter_cons, List.filter_cons]
    obtain ⟨b, hb, hb1, hb2⟩ := hx
    rcases List.mem_cons.1 hb with rfl | hb
    · rw [hb1, hb2]; simp; omega
    · have ih := filter_lt p q l (fun b hb => h b (List.mem_cons_of_mem _ hb)) ⟨b, hb, hb1, hb2⟩
      cases hp : p a
      · cases q a <;> simp <;> omega
      · rw [h1 hp]; simp; omega
theorem leftD_le {o : Pr} {s t : List ByteArray} (h : ∀ n, InS s n → InS t n) : leftD o t ≤ leftD o s := by
  refine filter_le _ _ _ fun d _ hd => ?_
  cases hs : hasS s d.name with
  | false => rfl
  | true => rw [h _ hs] at hd; cases hd
theorem leftD_lt {o : Pr} {s : List ByteArray} {n : ByteArray} {d : Da} (hd : o.data n = some d) (hs : hasS s n = false) : leftD o (s ++ [n]) < leftD o s := by
  have hm := List.mem_of_find?_eq_some hd
  have hn : d.name = n := by
    have h := List.find?_some hd
    exact of_decide_eq_true h
  refine filter_lt _ _ _ (fun e _ he => ?_) ⟨d, hm, ?_, ?_⟩
  · rw [hasS_app] at he
    cases h : hasS s e.name with
    | false => rfl
    | true => rw [h] at he; cases he
  · rw [hasS_app, hn, hasS_one]; simp
  · rw [hn, hs]; rfl
theorem insS_app (s : List ByteArray) (n : ByteArray) : InS (s ++ [n]) n := by unfold InS; rw [hasS_app, hasS_one]; simp
theorem insS_sub (s : List ByteArray) (n x : ByteArray) (h : InS s x) : InS (s ++ [n]) x := by unfold InS at *; rw [hasS_app, h]; rfl
/-- a name whose Datas were found alike -/
theorem try_name {o w : Pr} {s s' : List ByteArray} {n : ByteArray} {d f : Da} {z : Bool} (hd : o.data n = some d) (hf : w.data n = some f) (hl : d.params.length = f.params.length)
    (h : Try o w (fun A => msOk A d.params f.params d.makes f.makes) (s ++ [n]) z s') : Try o w (fun A => A n) s z s' := by
  refine ⟨fun hz => ?_, fun hz A hA hn => ?_⟩
  · obtain ⟨h1, h2⟩ := h.1 hz
    refine ⟨⟨fun x hx => h1.1 x (insS_sub s n x hx), fun x hx hs => ?_⟩, h1.1 n (insS_app s n)⟩
    by_cases hxn : x = n
    · subst hxn; exact ⟨d, f, hd, hf, hl, h2⟩
    · refine h1.2 x hx ?_
      rw [hasS_app, hs, hasS_one]
      simp [Ne.symm hxn]
  · obtain ⟨d', f', e1, e2, e3, e4⟩ := hA n hn
    rw [hd] at e1
    rw [hf] at e2
    injection e1 with e1
    injection e2 with e2
    subst e1 e2
    exact h.2 hz A hA e4
end Go.Proofs.Ytnkafjkcjpajgaa
