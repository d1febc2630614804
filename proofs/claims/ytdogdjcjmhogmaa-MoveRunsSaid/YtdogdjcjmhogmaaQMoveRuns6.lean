/-
  Texts of this proof, part 6: Ab43 Ab45 Ab46 Ab47 Ab48.
-/
import Derived.Test.YtdogdjcjmhogmaaQMoveRuns5
import Derived.Laws.IdiomRangeMap
import Derived.Lib.MinMax
namespace Go.Proofs.Ytdogdjcjmhogmaa
open Go.RowKit
theorem leftOf_mem {l : List MapEntry} {seen : Array Nat} {e : MapEntry} (h : e ∈ (leftOf l.toArray seen).toList) : e ∈ l ∧ e.born ∉ seen.toList := by
  have h1 := mem_left h
  refine ⟨by simpa using h1.1, ?_⟩
  have := h1.2
  rw [Array.contains_eq_mem, decide_eq_false_iff_not] at this
  simpa using this
theorem leftOf_none {l : List MapEntry} {seen : Array Nat} (h : (leftOf l.toArray seen).size = 0) : ∀ e ∈ l, e.born ∈ seen.toList := by
  intro e he
  have h1 : leftOf l.toArray seen = #[] := Array.eq_empty_of_size_eq_zero h
  unfold leftOf at h1
  rw [Array.filter_eq_empty_iff] at h1
  have := h1 e (by simpa using he)
  simpa using this
theorem nodup_map_inj {α β : Type} {f : α → β} : ∀ {l : List α} (_ : (l.map f).Nodup) {i j : Nat} (hi : i < l.length) (hj : j < l.length), f l[i] = f l[j] → i = j := by
  intro l h i j hi hj he
  have hp : (l.map f).Pairwise (· ≠ ·) := h
  have hg := List.pairwise_iff_getElem.1 hp
  rcases Nat.lt_trichotomy i j with hl | hl | hl
  · exact absurd (by rw [List.getElem_map, List.getElem_map]; exact he) (hg i j (by simpa using hi) (by simpa using hj) hl)
  · exact hl
  · exact absurd (by rw [List.getElem_map, List.getElem_map]; exact he.symm) (hg j i (by simpa using hj) (by simpa using hi) hl)
theorem map_erase {α β : Type} (f : α → β) : ∀ (l : List α) (j : Nat), (l.eraseIdx j).map f = (l.map f).eraseIdx j
  | [], j => by simp
  | a :: l, 0 => by simp
  | a :: l, j + 1 => by simp [map_erase f l j]
def mdel {α : Type} [DecidableEq α] (k : α) : List (α × T) → List (α × T)
  | [] => []
  | (k', t) :: l => if k = k' then l else (k', t) :: mdel k l
theorem find_del {α : Type} [DecidableEq α] {dk : TypeDesc} {κ : α → Value} (hκ : KeyIs dk κ) (k : α) : ∀ (l : List (α × T)) (es : List MapEntry) (i : Nat), es.map (·.key) = l.map (fun p => κ p.1) →
    (Instr.findNow dk (κ k) es i = some none ∧ mdel k l = l) ∨
    ∃ j e, Instr.findNow dk (κ k) es i = some (some (i + j, e.val)) ∧ es[j]? = some e ∧ mdel k l = l.eraseIdx j
  | [], es, i, h => by
    obtain rfl : es = [] := by simpa using h
    exact .inl ⟨rfl, rfl⟩
  | (k', t') :: l, [], i, h => by simp at h
  | (k', t') :: l, e :: es, i, h => by
    simp only [List.map_cons, List.cons.injEq] at h
    obtain ⟨r, hr, hiff⟩ := MapKept.sameNow_of_keys (hκ.is k) (by rw [h.1]; exact hκ.is k' : MapKept.IsKey dk e.key)
    rw [h.1] at hiff
    by_cases hk : k = k'
    · subst hk
      obtain rfl : r = true := hiff.2 rfl
      exact .inr ⟨0, e, by simp [Instr.findNow, hr], rfl, by simp [mdel]⟩
    · have hrf : r = false := by
        cases r with
        | false => rfl
        | true => exact absurd (hκ.inj _ _ (hiff.1 rfl)) hk
      subst hrf
      rcases find_del hκ k l es (i + 1) h.2 with ⟨h1, h2⟩ | ⟨j, e', h1, h2, h3⟩
      · exact .inl ⟨by simp [Instr.findNow, hr, h1], by simp [mdel, hk, h2]⟩
      · exact .inr ⟨j + 1, e', by simp [Instr.findNow, hr, h1]; omega, by simpa using h2, by simp [mdel, hk, h3]⟩
theorem RTs.erase {M : Mm} : ∀ {ts : List T} {xs : List Value} (j : Nat), RTs M ts xs → RTs M (ts.eraseIdx j) (xs.eraseIdx j)
  | [], _, j, h => by simp only [RTs] at h; subst h; simp [RTs]
  | t :: ts, _, 0, h => by
    simp only [RTs] at h
    obtain ⟨x, r, rfl, h1, h2⟩ := h
    simpa using h2
  | t :: ts, _, j + 1, h => by
    simp only [RTs] at h
    obtain ⟨x, r, rfl, h1, h2⟩ := h
    simp only [List.eraseIdx_cons_succ, RTs]
    exact ⟨x, _, rfl, h1, RTs.erase j h2⟩
section
variable {P : Program} {F : Frm} {d : Option Tmp} {ty : TypeId} {pos : String} {aft : Array Edge} {g : Option (Nat × Bool)} {ρ : Operand → AV} {hp : List Blk} {K : AV → List Blk → Prop}
theorem lo_range {xT kT eT : TypeId} {x : Operand} {i b : Nat} {es : List (Value × T)} (hu : P.underlying xT = some (.map kT eT)) (hx : ρ x = .own i (.map (some b))) (hi : hp[i]? = some (.mp b es))
    (h : ∀ b' st c, st.length = es.length → K (.ptr hp.length b' 0) (hp.set i (.mpx b es (some (st, c))) ++ [.it b' b st c []])) : LO P F ⟨d, .range xT x, ty, pos, aft, g⟩ ρ hp K := by
  refine ⟨fun M e w he hh => ?_⟩
  have h1 := he x (by first | (simp [Op.operands]; done) | simp [Op.operands, Call.operands])
  rw [hx] at h1
  simp only [RA] at h1
  obtain ⟨es', clock, hb, hkeys, hvals, hstm, hst⟩ := hh.at_ i _ hi
  have hlen : es'.length = es.length := by simpa using congrArg List.length hkeys
  have hrun := run_range_map (P := P) w xT kT eT b es'.toArray clock hu hb
  have hil : i < hp.length := (List.getElem?_eq_some_iff.1 hi).1
  have hh2 : HeapOk F M (hp.set i (.mpx b es (some (es'.map (·.born), clock)))) w := by
    have hg : ∀ (j : Nat) (x : Blk), (hp.set i (.mpx b es (some (es'.map (·.born), clock))))[j]? = some x → ∃ y, hp[j]? = some y ∧ x.blk = y.blk ∧ BlkOk M w x := by
      intro j x hj
      by_cases hij : i = j
      · subst hij
        rw [List.getElem?_set_self hil] at hj
        obtain rfl : _ = x := by injection hj
        exact ⟨_, hi, rfl, ⟨es', clock, hb, hkeys, hvals, hstm, fun s hs => by simpa using hs.symm⟩⟩
      · rw [List.getElem?_set_ne hij] at hj
        exact ⟨x, hj, rfl, hh.at_ j x hj⟩
    refine ⟨hh.mem, hh.ext, hh.frm, fun j x hj => (hg j x hj).choose_spec.2.2, fun j k x y q hj hk hx hy => ?_, fun j x q hj hq => ?_⟩
    · obtain ⟨x', h3, h4, -⟩ := hg j x hj
      obtain ⟨y', h5, h6, -⟩ := hg k y hk
      exact hh.sep j k x' y' q h3 h5 (by rw [← h4]; exact hx) (by rw [← h6]; exact hy)
    · obtain ⟨x', h3, h4, -⟩ := hg j x hj
      exact hh.out j x' q h3 (by rw [← h4]; exact hq)
  have hrun2 : (execOp e ⟨d, .range xT x, ty, pos, aft, g⟩).run P w = .ok (.value (.pointer (some ⟨w.heap.size, 0, none⟩))) (w.alloc (.mapIter (some b) clock #[] clock)) := by
    simp [execOp, h1.1, hrun]
  rw [hrun2]
  have hk := h w.heap.size (es'.map (·.born)) clock (by simpa using hlen)
  refine ⟨M, _, _, hk, Ext.refl _ _, ?_, by simp only [RA]⟩
  have hl2 : (hp.set i (.mpx b es (some (es'.map (·.born), clock)))).length = hp.length := List.length_set
  refine hh2.step hp.length rfl rfl rfl (by simp) (fun b hb _ => Below.heap_alloc _ _ _ hb) (Ext.refl _ _) (fun p v h1 h2 => by rw [h2] at h1; cases h1) (fun j hj => ?_) (fun x' hx' => ?_)
  · rcases Nat.lt_or_ge j hp.length with h | h
    · rw [List.getElem?_append_left (by rw [hl2]; exact h)]
    · rw [List.getElem?_eq_none (by rw [List.length_append, hl2]; simp only [List.length_cons, List.length_nil]; omega), List.getElem?_eq_none (by rw [hl2]; omega)]
  · rw [List.getElem?_append_right (by rw [hl2]; exact Nat.le_refl _), hl2] at hx'
    obtain rfl : _ = x' := by simpa using hx'
    refine ⟨⟨heap_alloc_new w _, fun p hp => by cases hp⟩, fun q hq => .inr ?_⟩
    obtain rfl : w.heap.size = q := by simpa [Blk.blk] using hq
    refine ⟨Nat.le_refl _, fun p hp => ?_⟩
    cases hc : M p with
    | none => rfl
    | some v => have := World.block_lt_of_cell? w p (hh.mem p v hc).1; omega
theorem lo_next {x : Operand} {i j b b' c : Nat} {es : List (Value × T)} {st P' : List Nat} (hx : ρ x = .ptr i b' 0) (hi : hp[i]? = some (.it b' b st c P')) (hj : hp[j]? = some (.mpx b es (some (st, c))))
    (hdone : (∀ k, k < es.length → k ∈ P') → K (.c (.tup [.lit (.bool false)])) hp)
    (hmore : ∀ (k : Nat) (u : Value) (t : T), es[k]? = some (u, t) → k ∉ P' → K (.c (.tup [.lit (.bool true), .lit u, t])) (hp.set i (.it b' b st c (P' ++ [k])))) : LO P F ⟨d, .next x false, ty, pos, aft, g⟩ ρ hp K := by
  refine ⟨fun M e w he hh => ?_⟩
  have h1 := he x (by first | (simp [Op.operands]; done) | simp [Op.operands, Call.operands])
  rw [hx] at h1
  simp only [RA] at h1
  obtain ⟨es', clock, hb, hkeys, hvals, hstm, hst⟩ := hh.at_ j _ hj
  obtain ⟨hst1, rfl⟩ : st = es'.map (·.born) ∧ c = clock := by
    have := hst (st, c) rfl
    exact ⟨congrArg Prod.fst this, congrArg Prod.snd this⟩
  obtain ⟨hit, hPl⟩ : w.heap[b']? = some (.mapIter (some b) c (P'.map fun p => st.getD p 0).toArray c) ∧ ∀ p ∈ P', p < st.length := hh.at_ i _ hi
  have hlen : es'.length = es.length := by simpa using congrArg List.length hkeys
  have hil : i < hp.length := (List.getElem?_eq_some_iff.1 hi).1
  have hbl : b' < w.heap.size := (Array.getElem?_eq_some_iff.1 hit).1
  -- the step, told of any world
  have key : ((∀ e ∈ es', e.born ∈ (P'.map fun p => st.getD p 0)) ∧ (Instr.next (.pointer (some ⟨b', 0, none⟩)) false ty).run P w = .ok (.tuple #[.bool false]) w) ∨
      ∃ e ∈ es', e.born ∉ (P'.map fun p => st.getD p 0) ∧ ∃ n : Nat, (Instr.next (.pointer (some ⟨b', 0, none⟩)) false ty).run P w = .ok (.tuple #[.bool true, e.key, e.val]) { w with drawn := w.drawn + n, heap := w.heap.setIfInBounds b' (.mapIter (some b) c ((P'.map fun p => st.getD p 0) ++ [e.born]).toArray c) } := by
    have hold : ∀ x ∈ es', x.born < c := hstm.2
    generalize (P'.map fun p => st.getD p 0) = seenl at hit ⊢
    have hget : (getObj b' : Sem Obj).run P w = .ok (.mapIter (some b) c seenl.toArray c) w := by simp only [getObj, Sem.run, hit]
    have htest : (!seenl.toArray.isEmpty && !es'.toArray.isEmpty && es'.toArray.all (fun x => decide (x.born ≥ c))) = false := next_test_false seenl.toArray es'.toArray c c (fun x hx => hold x (by simpa using hx)) (Nat.le_refl _)
    have hLm : ∀ x ∈ (leftOf es'.toArray seenl.toArray).toList, x ∈ es' ∧ x.born ∉ seenl := fun x hx => by
      have := leftOf_mem hx
      simpa using this
    have hL0 : (leftOf es'.toArray seenl.toArray).size = 0 → ∀ e ∈ es', e.born ∈ seenl := fun h => by
      have := leftOf_none h
      simpa using this
    have hlf : leftOf es'.toArray seenl.toArray = Array.filter (fun e => !seenl.toArray.contains e.born) es'.toArray := rfl
    simp only [Instr.next, Sem.run_bind, hget, MapKept.run_getObj_map hb, Result.andThen, htest, Bool.false_eq_true, if_false]
    rw [← hlf]
    generalize leftOf es'.toArray seenl.toArray = L at hLm hL0 ⊢
    have e1 : L.filter (fun x => decide (x.born < c)) = L := Array.filter_eq_self.2 (fun x hx => by simpa using hold x (hLm x (by simpa using hx)).1)
    have e2 : L.filter (fun x => decide (x.born ≥ c)) = #[] := by
      rw [Array.filter_eq_empty_iff]
      intro x hx
      have := hold x (hLm x (by simpa using hx)).1
      simp
      omega
    simp only [e1, e2, Array.append_empty]
    by_cases h0 : L.size = 0
    · left
      have : L = #[] := Array.eq_empty_of_size_eq_zero h0
      refine ⟨hL0 h0, ?_⟩
      subst this
      simp [choose, Sem.run, Question.forced]
    · right
      have hne : L.isEmpty = false := by simp [Array.isEmpty, h0]
      simp only [hne, Bool.false_eq_true, if_false, Array.empty_append, Array.size_map]
      have hch : ∃ (q n : Nat), q < L.size ∧ (choose (Question.mapNext L.size)).run P w = .ok q { w with drawn := w.drawn + n } := by
        by_cases hf : L.size ≤ 1
        · exact ⟨0, 0, by omega, by simp [choose, Sem.run, Question.forced, hf]⟩
        · exact ⟨_, 1, Nat.mod_lt _ (by omega), by
            simp only [choose, Sem.run, Question.forced, decide_eq_true_eq, hf, if_false, Question.cut]
            rfl⟩
      obtain ⟨q, n, hq, hrun⟩ := hch
      have hmem := hLm L[q] (by simp)
      refine ⟨L[q], hmem.1, hmem.2, n, ?_⟩
      have hset : ∀ o' : Obj, (setObj b' o').run P { w with drawn := w.drawn + n } = .ok () { w with drawn := w.drawn + n, heap := w.heap.setIfInBounds b' o' } := fun o' => by
        simp only [setObj, Sem.run, hit]
      simp only [hrun, Array.getElem?_map, Array.getElem?_eq_getElem hq, Option.map_some, Sem.run_bind, hset, Result.andThen]
      simp
  rcases key with ⟨hall, hrun⟩ | ⟨e0, hm, hn, n, hrun⟩
  · have hrun2 : (execOp e ⟨d, .next x false, ty, pos, aft, g⟩).run P w = .ok (.value (.tuple #[.bool false])) w := by
      simp [execOp, h1, hrun]
    rw [hrun2]
    refine ⟨M, _, _, hdone (fun k hk => ?_), Ext.refl _ _, hh, by simp only [RA, RT, RTs]; exact ⟨[.bool false], rfl, _, _, rfl, rfl, rfl⟩⟩
    have hk' : k < es'.length := by omega
    have := hall es'[k] (List.getElem_mem hk')
    obtain ⟨p, hp, hpe⟩ := List.mem_map.1 this
    have hpl := hPl p hp
    rw [hst1, List.length_map] at hpl
    rw [hst1, List.getD_eq_getElem?_getD, List.getElem?_map, List.getElem?_eq_getElem hpl] at hpe
    have : p = k := nodup_map_inj hstm.1 hpl hk' hpe
    rw [← this]; exact hp
  · obtain ⟨k, hk, rfl⟩ := List.getElem_of_mem hm
    have hk2 : k < es.length := by omega
    have hkey : es'[k].key = es[k].1 := by
      have := congrArg (fun l => l[k]?) hkeys
      simpa [List.getElem?_map, List.getElem?_eq_getElem hk, List.getElem?_eq_getElem hk2] using this
    have hkP : k ∉ P' := fun h => hn (List.mem_map.2 ⟨k, h, by rw [hst1, List.getD_eq_getElem?_getD, List.getElem?_map, List.getElem?_eq_getElem hk]; rfl⟩)
    obtain ⟨u, hu1, hu2⟩ := hvals.get (j := k) (t := es[k].2) (by rw [List.getElem?_map, List.getElem?_eq_getElem hk2]; rfl)
    rw [List.getElem?_map, List.getElem?_eq_getElem hk] at hu1
    obtain rfl : es'[k].val = u := by simpa using hu1
    have hrun2 : (execOp e ⟨d, .next x false, ty, pos, aft, g⟩).run P w = .ok (.value (.tuple #[.bool true, es'[k].key, es'[k].val])) { w with drawn := w.drawn + n, heap := w.heap.setIfInBounds b' (.mapIter (some b) c ((P'.map fun p => st.getD p 0) ++ [es'[k].born]).toArray c) } := by
      simp [execOp, h1, hrun]
    rw [hrun2]
    refine ⟨M, _, _, hmore k es[k].1 es[k].2 (List.getElem?_eq_getElem hk2) hkP, Ext.refl _ _, ?_, by simp only [RA, RT, RTs]; exact ⟨[.bool true, es'[k].key, es'[k].val], rfl, _, _, rfl, rfl, _, _, rfl, hkey, _, _, rfl, hu2, rfl⟩⟩
    refine hh.step i rfl rfl rfl (by simp) (fun q hq hne => ?_) (Ext.refl _ _) (fun p v h1 h2 => by rw [h2] at h1; cases h1) (fun q hq => by rw [List.getElem?_set_ne (Ne.symm hq)]) (fun x' hx' => ?_)
    · have : q ≠ b' := fun e => hne _ hi (by rw [e]; rfl)
      simp [Array.getElem?_setIfInBounds, Ne.symm this]
    · rw [List.getElem?_set_self hil] at hx'
      obtain rfl : _ = x' := by injection hx'
      refine ⟨⟨?_, fun p hp => ?_⟩, fun q hq => .inl ⟨_, hi, hq⟩⟩
      · have : (P' ++ [k]).map (fun p => st.getD p 0) = (P'.map fun p => st.getD p 0) ++ [es'[k].born] := by
          rw [List.map_append, hst1]
          simp [List.getD_eq_getElem?_getD, List.getElem?_map, List.getElem?_eq_getElem hk]
        rw [this]
        simp [Array.getElem?_setIfInBounds, hbl]
      · rcases List.mem_append.1 hp with hp | hp
        · exact hPl p hp
        · rw [List.mem_singleton.1 hp, hst1, List.length_map]; exact hk
end
theorem heap_unit {F : Frm} {M : Mm} {hp : List Blk} {w : World} {i b : Nat} {es : List (Value × T)} {o : Option (List Nat × Nat)} (h : HeapOk F M hp w) (hi : hp[i]? = some (.mpx b es o)) : HeapOk F M (hp.set i (.mp b es)) w := by
  have hil : i < hp.length := (List.getElem?_eq_some_iff.1 hi).1
  have hg : ∀ (j : Nat) (x : Blk), (hp.set i (.mp b es))[j]? = some x → ∃ y, hp[j]? = some y ∧ x.blk = y.blk ∧ BlkOk M w x := by
    intro j x hj
    by_cases hij : i = j
    · subst hij
      rw [List.getElem?_set_self hil] at hj
      obtain rfl : _ = x := by injection hj
      obtain ⟨l, clock, h1, h2, h3, h4, -⟩ := h.at_ i _ hi
      exact ⟨_, hi, rfl, ⟨l, clock, h1, h2, h3, h4, fun s hs => by cases hs⟩⟩
    · rw [List.getElem?_set_ne hij] at hj
      exact ⟨x, hj, rfl, h.at_ j x hj⟩
  refine ⟨h.mem, h.ext, h.frm, fun j x hj => (hg j x hj).choose_spec.2.2, fun j k x y q hj hk hx hy => ?_, fun j x q hj hq => ?_⟩
  · obtain ⟨x', h3, h4, -⟩ := hg j x hj
    obtain ⟨y', h5, h6, -⟩ := hg k y hk
    exact h.sep j k x' y' q h3 h5 (by rw [← h4]; exact hx) (by rw [← h6]; exact hy)
  · obtain ⟨x', h3, h4, -⟩ := hg j x hj
    exact h.out j x' q h3 (by rw [← h4]; exact hq)
section
variable {P : Program} {F : Frm} {τ : Nat → AV} {hp : List Blk} {N : Nat} {Q : Exit → AS → Prop}
theorem wk_unit (i : Nat) {b : Nat} {es : List (Value × T)} {o : Option (List Nat × Nat)} (hi : hp[i]? = some (.mpx b es o)) : Wk F ⟨τ, hp, N⟩ ⟨τ, hp.set i (.mp b es), N⟩ := by
  intro M a w hr
  exact ⟨M, hr.tmps, hr.size, hr.defers, heap_unit hr.heap hi⟩
end
end Go.Proofs.Ytdogdjcjmhogmaa
namespace Go.Proofs.Ytdogdjcjmhogmaa
open Go.RowKit
section
variable {α β : Type}
def mapT (f : β → T) (l : List (α × β)) : List (α × T) := l.map fun p => (p.1, f p.2)
theorem mapT_len (f : β → T) (l : List (α × β)) : (mapT f l).length = l.length := List.length_map _
end
section
variable {α β : Type} [DecidableEq α]
def gget (k : α) : List (α × β) → Option β
  | [] => none
  | (k', b) :: l => if k = k' then some b else gget k l
def gput (k : α) (b : β) : List (α × β) → List (α × β)
  | [] => [(k, b)]
  | (k', b') :: l => if k = k' then (k, b) :: l else (k', b') :: gput k b l
def gdel (k : α) : List (α × β) → List (α × β)
  | [] => []
  | (k', b) :: l => if k = k' then l else (k', b) :: gdel k l
theorem mget_T (f : β → T) (k : α) : ∀ l : List (α × β), mget k (mapT f l) = (gget k l).map f
  | [] => rfl
  | (k', b) :: l => by
    show (if k = k' then some (f b) else mget k (mapT f l)) = _
    rw [mget_T f k l, gget]
    split <;> rfl
theorem mput_T (f : β → T) (k : α) (b : β) : ∀ l : List (α × β), mput k (f b) (mapT f l) = mapT f (gput k b l)
  | [] => rfl
  | (k', b') :: l => by
    show (if k = k' then (k, f b) :: mapT f l else (k', f b') :: mput k (f b) (mapT f l)) = _
    rw [mput_T f k b l, gput]
    split <;> rfl
theorem mdel_T (f : β → T) (k : α) : ∀ l : List (α × β), mdel k (mapT f l) = mapT f (gdel k l)
  | [] => rfl
  | (k', b') :: l => by
    show (if k = k' then mapT f l else (k', f b') :: mdel k (mapT f l)) = _
    rw [mdel_T f k l, gdel]
    split <;> rfl
theorem gget_put (k k' : α) (b : β) : ∀ l : List (α × β), gget k (gput k' b l) = if k = k' then some b else gget k l
  | [] => by simp [gput, gget]
  | (k2, b2) :: l => by
    simp only [gput]
    by_cases h : k' = k2
    · subst h
      simp only [if_true, gget]
      split <;> rfl
    · simp only [if_neg h, gget, gget_put k k' b l]
      by_cases h2 : k = k2
      · subst h2
        simp [Ne.symm h]
      · simp [h2]
theorem gput_keys (k : α) (b : β) : ∀ l : List (α × β), (gput k b l).map (·.1) = if k ∈ l.map (·.1) then l.map (·.1) else l.map (·.1) ++ [k]
  | [] => by simp [gput]
  | (k', b') :: l => by
    rw [gput]
    by_cases h : k = k'
    · rw [if_pos h, if_pos (by rw [h]; simp)]
      simp [h]
    · rw [if_neg h, List.map_cons, gput_keys k b l]
      by_cases h2 : k ∈ l.map (·.1)
      · rw [if_pos h2, if_pos (by rw [List.map_cons]; exact List.mem_cons_of_mem _ h2)]
        rfl
      · rw [if_neg h2, if_neg (by rw [List.map_cons, List.mem_cons]; exact fun h3 => h3.elim h h2)]
        rfl
theorem gput_len {k : α} {b : β} {l : List (α × β)} : (gput k b l).length ≤ l.length + 1 := by
  have := congrArg List.length (gput_keys k b l)
  rw [List.length_map] at this
  rw [this]
  split <;> simp
theorem gdel_sub (k : α) : ∀ l : List (α × β), (gdel k l).Sublist l
  | [] => List.Sublist.slnil
  | (k', b) :: l => by
    simp only [gdel]
    split
    · exact List.sublist_cons_self _ _
    · exact (gdel_sub k l).cons_cons _
end
end Go.Proofs.Ytdogdjcjmhogmaa
namespace Go.Proofs.Ytdogdjcjmhogmaa
open Go.RowKit
section
variable {P : Program} {F : Frm} {d : Option Tmp} {ty : TypeId} {pos : String} {aft : Array Edge} {g : Option (Nat × Bool)} {ρ : Operand → AV} {hp : List Blk} {K : AV → List Blk → Prop}
theorem lo_entry {x : Operand} {i j b b' c k : Nat} {es : List (Value × T)} {st P' : List Nat} {u : Value} {t : T} (hx : ρ x = .ptr i b' 0) (hi : hp[i]? = some (.it b' b st c (P' ++ [k]))) (hj : hp[j]? = some (.mpx b es (some (st, c)))) (hk : es[k]? = some (u, t))
    (h : K (.c (.tup [.lit u, t])) hp) : LO P F ⟨d, .entry x, ty, pos, aft, g⟩ ρ hp K := by
  refine LO.same (fun M e w he hh => ?_) h
  have h1 := he x (by first | (simp [Op.operands]; done) | simp [Op.operands, Call.operands])
  rw [hx] at h1
  simp only [RA] at h1
  obtain ⟨es', clock, hb, hkeys, hvals, hstm, hst⟩ := hh.at_ j _ hj
  obtain ⟨hst1, rfl⟩ : st = es'.map (·.born) ∧ c = clock := by
    have := hst (st, c) rfl
    exact ⟨congrArg Prod.fst this, congrArg Prod.snd this⟩
  obtain ⟨hit, -⟩ : w.heap[b']? = some (.mapIter (some b) c ((P' ++ [k]).map fun p => st.getD p 0).toArray c) ∧ ∀ p ∈ P' ++ [k], p < st.length := hh.at_ i _ hi
  have hlen : es'.length = es.length := by simpa using congrArg List.length hkeys
  obtain ⟨hk2, hke⟩ := List.getElem?_eq_some_iff.1 hk
  have hk1 : k < es'.length := by omega
  have hkey : es'[k].key = u := by
    have := congrArg (fun l => l[k]?) hkeys
    simp only [List.getElem?_map, List.getElem?_eq_getElem hk1, hk, Option.map_some, Option.some.injEq] at this
    exact this
  obtain ⟨z, hz1, hz2⟩ := hvals.get (j := k) (t := t) (by rw [List.getElem?_map, hk]; rfl)
  rw [List.getElem?_map, List.getElem?_eq_getElem hk1] at hz1
  obtain rfl : es'[k].val = z := by simpa using hz1
  have hborn : st.getD k 0 = es'[k].born := by rw [hst1]; simp [List.getD_eq_getElem?_getD, List.getElem?_map, List.getElem?_eq_getElem hk1]
  have hseen : ((P' ++ [k]).map fun p => st.getD p 0) = (P'.map fun p => st.getD p 0) ++ [es'[k].born] := by
    rw [List.map_append, ← hborn]; rfl
  rw [hseen] at hit
  have hfind := find_born es'[k] es' hstm.1 (List.getElem_mem hk1)
  have hback : (((P'.map fun p => st.getD p 0) ++ [es'[k].born]).toArray).back? = some es'[k].born := by simp
  generalize ((P'.map fun p => st.getD p 0) ++ [es'[k].born]).toArray = seen at *
  have hrun : (Instr.entry (.pointer (some ⟨b', 0, none⟩))).run P w = .ok (.tuple #[es'[k].key, es'[k].val]) w := by
    have hget : (getObj b' : Sem Obj).run P w = .ok (.mapIter (some b) c seen c) w := by simp only [getObj, Sem.run, hit]
    simp only [Instr.entry, Sem.run_bind, hget, MapKept.run_getObj_map hb, Result.andThen, hback, bne_self_eq_false, Bool.false_eq_true, if_false]
    have hf2 : es'.toArray.find? (fun e => e.born == es'[k].born) = some es'[k] := by rw [← Array.find?_toList]; exact hfind
    rw [hf2]
    rfl
  refine ⟨.tuple #[es'[k].key, es'[k].val], ?_, by simp only [RA, RT, RTs]; exact ⟨[es'[k].key, es'[k].val], rfl, _, _, rfl, hkey, _, _, rfl, hz2, rfl⟩⟩
  simp [execOp, h1, hrun]
theorem zEn {x : Operand} {i b b' c k : Nat} {es : List (Value × T)} {st P' : List Nat} {u : Value} {t : T} (j : Nat) (hk : es[k]? = some (u, t)) (h : K (.c (.tup [.lit u, t])) hp) (hx : ρ x = .ptr i b' 0 := by exact rfl) (hi : hp[i]? = some (.it b' b st c (P' ++ [k])) := by exact rfl) (hj : hp[j]? = some (.mpx b es (some (st, c))) := by exact rfl) : LO P F ⟨d, .entry x, ty, pos, aft, g⟩ ρ hp K :=
  lo_entry hx hi hj hk h
end
theorem walk_len {l : List Nat} {n : Nat} (h : l.Nodup) (hl : ∀ p ∈ l, p < n) : l.length ≤ n := by
  have := h.length_le_of_subset (l₂ := List.range n) fun x hx => List.mem_range.2 (hl x hx)
  simpa using this
theorem walk_snoc {l : List Nat} {n k : Nat} (h : l.Nodup) (hl : ∀ p ∈ l, p < n) (hk : k < n) (hn : k ∉ l) : (l ++ [k]).Nodup ∧ ∀ p ∈ l ++ [k], p < n := by
  refine ⟨?_, fun p hp => ?_⟩
  · rw [List.nodup_append]
    refine ⟨h, by simp, fun a ha b hb e => ?_⟩
    rw [List.mem_singleton.1 hb] at e
    rw [e] at ha; exact hn ha
  · rcases List.mem_append.1 hp with hp | hp
    · exact hl p hp
    · rw [List.mem_singleton.1 hp]; exact hk
end Go.Proofs.Ytdogdjcjmhogmaa
namespace Go.Proofs.Ytdogdjcjmhogmaa
open Go.RowKit
def Dj (x y : Blk) : Prop := ∀ b, x.blk = some b → y.blk ≠ some b
theorem Dj.symm {x y : Blk} (h : Dj x y) : Dj y x := fun b h1 h2 => h b h2 h1
structure HpOk (F : Frm) (M : Mm) (hp : List Blk) (w : World) : Prop where
  mem : MemOk M w
  ext : Ext F.may F.M0 M
  frm : Keeps F w
  at_ : ∀ x ∈ hp, BlkOk M w x
  sep : hp.Pairwise Dj
  out : ∀ x ∈ hp, ∀ b, x.blk = some b → F.may b ∧ ∀ p : Addr, p.block = b → M p = none
section
variable {F : Frm} {M : Mm} {hp hp' : List Blk} {w : World}
theorem HeapOk.all (h : HeapOk F M hp w) : HpOk F M hp w := by
  refine ⟨h.mem, h.ext, h.frm, fun x hx => ?_, ?_, fun x hx b hb => ?_⟩
  · obtain ⟨i, hi⟩ := List.getElem?_of_mem hx
    exact h.at_ i x hi
  · rw [List.pairwise_iff_getElem]
    intro i j hi hj hij b h1 h2
    have := h.sep i j _ _ b (List.getElem?_eq_getElem hi) (List.getElem?_eq_getElem hj) h1 h2
    omega
  · obtain ⟨i, hi⟩ := List.getElem?_of_mem hx
    exact h.out i x b hi hb
theorem HpOk.heap (h : HpOk F M hp w) : HeapOk F M hp w := by
  have hs := List.pairwise_iff_getElem.1 h.sep
  refine ⟨h.mem, h.ext, h.frm, fun i x hi => h.at_ x (List.mem_of_getElem? hi), fun i j x y b hi hj hx hy => ?_, fun i x b hi hb => h.out x (List.mem_of_getElem? hi) b hb⟩
  obtain ⟨hi', rfl⟩ := List.getElem?_eq_some_iff.1 hi
  obtain ⟨hj', rfl⟩ := List.getElem?_eq_some_iff.1 hj
  rcases Nat.lt_trichotomy i j with hlt | rfl | hlt
  · exact absurd hy (hs i j hi' hj' hlt b hx)
  · rfl
  · exact absurd hx (hs j i hj' hi' hlt b hy)
theorem HeapOk.perm (h : HeapOk F M hp w) (hq : hp.Perm hp') : HeapOk F M hp' w :=
  let h := h.all
  HpOk.heap ⟨h.mem, h.ext, h.frm, fun x hx => h.at_ x (hq.mem_iff.2 hx), (hq.pairwise_iff (fun h => Dj.symm h)).1 h.sep, fun x hx => h.out x (hq.mem_iff.2 hx)⟩
theorem wk_perm {τ : Nat → AV} {N : Nat} (hq : hp.Perm hp') : Wk F ⟨τ, hp, N⟩ ⟨τ, hp', N⟩ := fun M _ _ hr => ⟨M, hr.tmps, hr.size, hr.defers, hr.heap.perm hq⟩
theorem sub_gx2 {A B : List Blk} (h : HeapOk F M (A ++ B) w) : ∀ x ∈ globTab, ¬ ∃ (i : Nat) (y : Blk), A[i]? = some y ∧ y.blk = some x.1 := by
  rintro x hx ⟨i, y, h1, h2⟩
  obtain ⟨t, fr, e⟩ := F.G x hx
  rcases (h.all.out y (List.mem_append_left _ (List.mem_of_getElem? h1)) x.1 h2).1 with h4 | h4
  · exact F.GX x hx h4
  · have := (Array.getElem?_eq_some_iff.1 e).1; omega
theorem HeapOk.part {A B : List Blk} (h : HeapOk F M (A ++ B) w) : HeapOk (subF M A w h.glob (sub_gx2 h)) M A w := by
  have hq := h.all
  refine HpOk.heap ⟨h.mem, Ext.refl _ _, ⟨rfl, rfl, rfl, Nat.le_refl _, fun _ _ _ => rfl⟩, fun x hx => hq.at_ x (List.mem_append_left _ hx), (List.pairwise_append.1 hq.sep).1, fun x hx b hb => ?_⟩
  obtain ⟨i, hi⟩ := List.getElem?_of_mem hx
  exact ⟨.inl ⟨i, x, hi, hb⟩, (hq.out x (List.mem_append_left _ hx) b hb).2⟩
theorem part_may {A B : List Blk} (h : HeapOk F M (A ++ B) w) (b : Nat) (hb : (subF M A w h.glob (sub_gx2 h)).may b) : F.may b := by
  rcases hb with ⟨i, x, hx, hxb⟩ | hb
  · exact (h.all.out x (List.mem_append_left _ (List.mem_of_getElem? hx)) b hxb).1
  · exact .inr (Nat.le_trans h.frm.size hb)
theorem HeapOk.join {A B A' : List Blk} {M' : Mm} {w' : World} (h : HeapOk F M (A ++ B) w) (h2 : HeapOk (subF M A w h.glob (sub_gx2 h)) M' A' w') : HeapOk F M' (A' ++ B) w' := by
  have hq := h.all
  have hq2 := h2.all
  have hM : Ext (subF M A w h.glob (sub_gx2 h)).may M M' := h2.ext
  have hX : ∀ b, (subF M A w h.glob (sub_gx2 h)).X b → ∃ x ∈ A, x.blk = some b := by
    rintro b ⟨i, x, hx, hb⟩
    exact ⟨x, List.mem_of_getElem? hx, hb⟩
  have hsep := List.pairwise_append.1 hq.sep
  have hold : ∀ x ∈ B, ∀ b, x.blk = some b → b < w.heap.size ∧ ¬ (subF M A w h.glob (sub_gx2 h)).X b := by
    intro x hx b hb
    refine ⟨(hq.at_ x (List.mem_append_right _ hx)).lt hb, fun hXb => ?_⟩
    obtain ⟨y, hy, hyb⟩ := hX b hXb
    exact hsep.2.2 y hy x hx b hyb hb
  refine HpOk.heap ⟨h2.mem, h.ext.trans (hM.to (part_may h)), ⟨h2.frm.os.trans h.frm.os, h2.frm.tape.trans h.frm.tape, h2.frm.output.trans h.frm.output, Nat.le_trans h.frm.size h2.frm.size, fun b hb hnX => ?_⟩, fun x hx => ?_, List.pairwise_append.2 ⟨hq2.sep, hsep.2.1, fun x hx y hy b hxb hyb => ?_⟩, fun x hx b hxb => ?_⟩
  · refine (h2.frm.block b (Nat.lt_of_lt_of_le hb h.frm.size) fun hXb => ?_).trans (h.frm.block b hb hnX)
    obtain ⟨y, hy, hyb⟩ := hX b hXb
    rcases (hq.out y (List.mem_append_left _ hy) b hyb).1 with h3 | h3
    · exact hnX h3
    · omega
  · rcases List.mem_append.1 hx with hx | hx
    · exact hq2.at_ x hx
    · exact (hq.at_ x (List.mem_append_right _ hx)).keep hM.sub fun b hb hlt => h2.frm.block b hlt (hold x hx b hb).2
  · obtain ⟨h3, h4⟩ := hold y hy b hyb
    rcases (hq2.out x hx b hxb).1 with h5 | h5
    · exact h4 h5
    · have : w.heap.size ≤ b := h5
      omega
  · rcases List.mem_append.1 hx with hx | hx
    · obtain ⟨h3, h4⟩ := hq2.out x hx b hxb
      refine ⟨?_, h4⟩
      rcases h3 with h5 | h5
      · obtain ⟨y, hy, hyb⟩ := hX b h5
        exact (hq.out y (List.mem_append_left _ hy) b hyb).1
      · exact .inr (Nat.le_trans h.frm.size h5)
    · obtain ⟨h3, h4⟩ := hq.out x (List.mem_append_right _ hx) b hxb
      refine ⟨h3, fun p hp' => ?_⟩
      have hlt := hold x hx b hxb
      cases hc : M' p with
      | none => rfl
      | some v =>
        rcases hM.2 p v hc with h5 | h5
        · rw [h4 p hp'] at h5; cases h5
        · rcases h5 with h6 | h6
          · exact absurd (hp' ▸ h6) hlt.2
          · have h7 : w.heap.size ≤ p.block := h6
            omega
end
section
variable {P : Program} {F : Frm} {Q : Exit → AS → Prop} {τ : Nat → AV} {hp hp' : List Blk} {N : Nat}
theorem x_perm {c : Go.Code} (hq : hp.Perm hp') (h : AC P F c Q ⟨τ, hp', N⟩) : AC P F c Q ⟨τ, hp, N⟩ := ac_wk (wk_perm hq) h
theorem x_eq {c : Go.Code} (hq : hp = hp') (h : AC P F c Q ⟨τ, hp', N⟩) : AC P F c Q ⟨τ, hp, N⟩ := by subst hq; exact h
/-- a row of the call's own becomes memory that only is read -/
theorem x_fzS {c : Go.Code} (s : Nat) {i : Nat} {v : Value} {e : TypeId} {sz n : Nat} {ts : List T} (h : AC P F c Q ⟨upd N s (.c (.row n sz ts)) τ, hp.set i .dead, N⟩) (hs : τ s = .own i v := by exact rfl) (hi : hp[i]? = some (.row v e sz n ts) := by exact rfl) : AC P F c Q ⟨τ, hp, N⟩ := by
  refine ac_wk ?_ h
  intro M a w hr
  obtain ⟨h1, h2⟩ := heap_frz hr.heap hi
  refine ⟨_, fun k => ?_, hr.size, hr.defers, h1⟩
  have h3 := hr.tmps k
  simp only [upd]
  cases hc : Nat.beq k s with
  | false => simp only [Bool.false_and, cond_false]; exact RA.mono (frB_sub _ _ _) _ _ h3
  | true =>
    obtain rfl := Nat.eq_of_beq_eq_true hc
    cases hN : Nat.blt k N with
    | false => simp only [Bool.and_false, cond_false]; exact RA.mono (frB_sub _ _ _) _ _ h3
    | true =>
      simp only [hs, RA] at h3
      simp only [Bool.and_true, cond_true, RA]
      rw [h3.1]; exact h2
/-- rows that are nil -/
theorem wk_nils (e : TypeId) (sz : Nat) (h0 : 0 < sz) : ∀ n : Nat, Wk F ⟨τ, hp, N⟩ ⟨τ, hp ++ List.replicate n (.row (.slice none 0 0) e sz 0 []), N⟩
  | 0 => by simpa using Wk.refl _
  | n + 1 => by
    refine Wk.trans (wk_nils e sz h0 n) ?_
    intro M a w hr
    refine ⟨M, hr.tmps, hr.size, hr.defers, ?_⟩
    have := push_row hr.heap rfl rfl rfl (Nat.le_refl _) (fun _ _ => rfl) (Ext.refl _ _) (fun p v h1 h2 => by rw [h2] at h1; cases h1) (x := .row (.slice none 0 0) e sz 0 []) ⟨[], ownsO_nil _ _ _, by simp only [RTs], fun x hx => by simp at hx, h0⟩ (fun b hb => by simp [Blk.blk, Value.ownBlock] at hb)
    rw [List.replicate_succ', ← List.append_assoc]
    exact this
/-- what a variable holds, said otherwise -/
theorem wk_boxR (i : Nat) {b : Nat} {t : TypeId} {cs : List AV} (cs' : List AV) (hi : hp[i]? = some (.box b t cs)) (hz : Res cs cs') : Wk F ⟨τ, hp, N⟩ ⟨τ, hp.set i (.box b t cs'), N⟩ := by
  intro M a w hr
  refine ⟨M, hr.tmps, hr.size, hr.defers, hr.heap.step i rfl rfl rfl (Nat.le_refl _) (fun _ _ _ => rfl) (Ext.refl _ _) (fun p v h1 h2 => by rw [h2] at h1; cases h1) (fun j hj => by rw [List.getElem?_set_ne (Ne.symm hj)]) (fun x' hx' => ?_)⟩
  have hlt : i < hp.length := (List.getElem?_eq_some_iff.1 hi).1
  rw [List.getElem?_set_self hlt] at hx'
  obtain rfl : Blk.box b t cs' = x' := by injection hx'
  obtain ⟨xs, h1, h2, h3⟩ := hr.heap.at_ i _ hi
  exact ⟨⟨xs, h1, hz _ _ h2, h3⟩, fun b' hb' => .inl ⟨_, hi, hb'⟩⟩
theorem x_boxR {c : Go.Code} (i : Nat) (cs' : List AV) {b : Nat} {t : TypeId} {cs : List AV} (h : AC P F c Q ⟨τ, hp', N⟩) (hi : hp[i]? = some (.box b t cs) := by exact rfl) (hz : Res cs cs' := by repeat (first | exact res_nil | apply res_cons | exact re_own | exact re_ptr | exact re_refl)) (hf : evl (hp.set i (.box b t cs')) = some hp' := by exact rfl) : AC P F c Q ⟨τ, hp, N⟩ :=
  ac_wk (wk_boxR i cs' hi hz) (by rw [← evl_eq hf]; exact h)
end
section
variable {P : Program} {F : Frm} {o : Oper} {ρ : Operand → AV} {hp : List Blk} {K : AV → List Blk → Prop}
/-- an operation touches the blocks of A alone -/
theorem lo_frame (A B : List Blk) (hq : hp.Perm (A ++ B)) (h : ∀ F', LO P F' o ρ A (fun v A' => K v (A' ++ B))) : LO P F o ρ hp K := by
  refine ⟨fun M e w he hh => ?_⟩
  have hh := hh.perm hq
  refine ((h (subF M A w hh.glob (sub_gx2 hh))).out M e w he hh.part).mono ?_
  rintro u w' ⟨M', v, A', hK, hx, hh2, hr⟩
  exact ⟨M', v, _, hK, hx.to (part_may hh), hh.join hh2, hr⟩
/-- what comes out is a row of the call's own -/
theorem lo_as (j : Nat) (h : LO P F o ρ hp fun a hp' => ∃ v e sz n cs, a = .c (.lit v) ∧ hp'[j]? = some (.row v e sz n cs) ∧ K (.own j v) hp') : LO P F o ρ hp K := by
  refine ⟨fun M e w he hh => (h.out M e w he hh).mono ?_⟩
  rintro u w' ⟨M', a, hp', ⟨v, e, sz, n, cs, rfl, hj, hK⟩, hx, hh2, hr⟩
  have h1 : v.oneCell' = true := by
    obtain ⟨xs, ho, _⟩ := hh2.at_ j _ hj
    exact own_oneO ho
  exact ⟨M', _, hp', hK, hx, hh2, by simp only [RA, RT] at hr ⊢; exact ⟨hr, h1⟩⟩
/-- what comes out is a pointer to a variable of the call's own, or a map of the call's own -/
theorem lo_asp (j : Nat) (h : LO P F o ρ hp fun a hp' => ∃ b off, a = .c (.lit (.pointer (some ⟨b, off, none⟩))) ∧ K (.ptr j b off) hp') : LO P F o ρ hp K := by
  refine ⟨fun M e w he hh => (h.out M e w he hh).mono ?_⟩
  rintro u w' ⟨M', a, hp', ⟨b, off, rfl, hK⟩, hx, hh2, hr⟩
  exact ⟨M', _, hp', hK, hx, hh2, by simpa only [RA, RT] using hr⟩
theorem lo_asm (j : Nat) (h : LO P F o ρ hp fun a hp' => ∃ b, a = .c (.lit (.map (some b))) ∧ K (.own j (.map (some b))) hp') : LO P F o ρ hp K := by
  refine ⟨fun M e w he hh => (h.out M e w he hh).mono ?_⟩
  rintro u w' ⟨M', a, hp', ⟨b, rfl, hK⟩, hx, hh2, hr⟩
  exact ⟨M', _, hp', hK, hx, hh2, by simp only [RA, RT] at hr ⊢; exact ⟨hr, rfl⟩⟩
end
theorem zGS {L : Tab} {σ : AS} {res : List ResultVar} {k : Nat} {R : AV → List Blk → Prop} {e : Exit} {vs : List AV} {hq : List Blk} (hh : σ.hp.take k = hq) (h : R (outA vs) hq) (he : e = .normal ∨ e = .ret := by first | exact .inl rfl | exact .inr rfl)
    (ho : OutsA L σ res vs := by repeat (first | exact outsA_nil | apply outsA_cons | (apply outA_tmp; (focus exact rfl)) | (apply outA_agg; (focus exact rfl); (focus exact rfl); (focus exact rfl); (focus exact rfl); (focus exact rfl); (focus exact rfl)) | (apply outA_one; (focus exact rfl); (focus exact rfl); (focus exact rfl); (focus exact rfl); (focus exact rfl)))) : FinG L res k R e σ := ⟨he, vs, ho, by rw [hh]; exact h⟩
theorem re_ol {i : Nat} {v : Value} : Re (.own i v) (.c (.lit v)) := fun M u h => by simp only [RA, RT] at h ⊢; exact h.1
theorem re_pl {i b off : Nat} : Re (.ptr i b off) (.c (.lit (.pointer (some ⟨b, off, none⟩)))) := fun M u h => by simp only [RA, RT] at h ⊢; exact h
theorem re_lp {i b off : Nat} : Re (.c (.lit (.pointer (some ⟨b, off, none⟩)))) (.ptr i b off) := fun M u h => by simp only [RA, RT] at h ⊢; exact h
/-- what lies in cells, asq closed trees -/
def Shut (v : AV) (ts : List T) : Prop := ∀ M u, RA M v u → RTs M ts u.cells.toList ∧ OneAll u.cells.toList
theorem shut_own {i : Nat} {v : Value} : Shut (.own i v) [.lit v] := by
  intro M u h
  simp only [RA] at h
  obtain ⟨rfl, h1⟩ := h
  rw [cells_one h1]
  exact ⟨by simp [RTs, RT], fun x hx => by simp at hx; rw [hx]; exact h1⟩
section
variable {P : Program} {F : Frm} {L : Tab} {d : Option Tmp} {ty : TypeId} {pos : String} {aft : Array Edge} {g : Option (Nat × Bool)} {ρ : Operand → AV} {hp : List Blk} {K : AV → List Blk → Prop}
/-- a call that is handed all the blocks -/
theorem zCallAll {f : FuncId} {y : Operand} {xs : List Operand} {ats : Array TypeId} {asq cap : List AV} {hs : List Blk} {R : AV → List Blk → Prop} (hc : AG P f asq hs R) (hq : hp.Perm hs) (h : ∀ r hs2, R r hs2 → ∃ r', Re r r' ∧ K r' hs2) (hy : ρ y = .fn (.func f) cap := by exact rfl)
    (hx : Res (xs.map ρ ++ cap) asq := by repeat (first | exact res_nil | apply res_cons | exact re_own | exact re_ptr | exact re_refl | apply re_cls | exact rzs_nil | apply rzs_cons | exact rz_c | exact rz_nil rfl | apply rz_agg | apply rz_fn | apply rz_tup)) :
    LO P F ⟨d, .call { callee := .value y, args := xs.toArray, argTypes := ats }, ty, pos, aft, g⟩ ρ hp K := by
  refine ⟨fun M e w he hh => ?_⟩
  obtain ⟨hE, hcall⟩ := hc
  have h1 := he y (by simp [Op.operands, Call.operands])
  rw [hy] at h1
  simp only [RA] at h1
  obtain ⟨cs, hu, hcs⟩ := h1
  rw [run_call hE hu]
  have hargs := hx M _ ((ev_all xs (fun x hx => he x (by simp [Op.operands, Call.operands, hx]))).app hcs)
  refine (hcall F M w _ (hh.perm hq) hargs).mono ?_
  rintro e' w' ⟨v, r, hs2, M', rfl, hR, hM, hh2, hr⟩
  obtain ⟨r', hre, hK⟩ := h r hs2 hR
  exact ⟨v, rfl, M', r', hs2, hK, hM, hh2, hre M' v hr⟩
/-- a store into a row of the call's own, of what can be said asq closed trees -/
theorem lo_store_eG (hL : TabOk P L) {t : TypeId} {ti : TI} {x y : Operand} {i off n sz : Nat} {v : Value} {e' : TypeId} {cs us : List T} (hx : ρ x = .eptr i v off) (hi : hp[i]? = some (.row v e' sz n cs)) (hy : Shut (ρ y) us) (ht : L.look t = some ti) (hl : us.length = ti.size) (hb : off + ti.size ≤ cs.length)
    (h : K (.c (.lit undef)) (hp.set i (.row v e' sz n (spl cs off us)))) : LO P F ⟨d, .store t x y, ty, pos, aft, g⟩ ρ hp K := by
  refine ⟨fun M e w he hh => ?_⟩
  have hax := he x (by simp [Op.operands])
  rw [hx] at hax
  simp only [RA] at hax
  obtain ⟨ad, m, c, rfl, hax⟩ := hax
  have hvy := he y (by simp [Op.operands])
  obtain ⟨hct, ho⟩ := hy M _ hvy
  obtain ⟨xs, how, hxs, hone, hsz⟩ := hh.at_ i _ hi
  have hlen := hxs.len
  have hcl := hct.len
  have hcs : (e y).cells.size = ti.size := by rw [← hl, ← hcl]; simp
  rcases how.2 with ⟨h0, _⟩ | ⟨g', o', cap, cur, hv, hg, hnc, hcm, hcur, htk⟩
  · cases h0
  · have hA : ad = ⟨g', o', none⟩ := by injection hv with h; injection h
    have hmn : m = n := by injection hv
    have hcc : c = cap := by injection hv
    subst hA; subst hmn; subst hcc
    have hxl := how.1
    have hoff : off + (e y).cells.toList.length ≤ xs.length := by rw [hlen]; simp [hcs]; omega
    have hcl2 : o' + xs.length ≤ cur.size := by rw [hxl]; have := Nat.mul_le_mul_right sz hnc; omega
    have hst := run_storeCells_at (P := P) g' (o' + off) e' (e y).cells.toList 0 cur w hg (by simp at hoff ⊢; omega) ho
    have hrun : (execOp e ⟨d, .store t x y, ty, pos, aft, g⟩).run P w = .ok .skip (w.setRow g' (spl cur.toList (o' + off) (e y).cells.toList).toArray) := by
      rw [spl_eq _ _ _ (by simp at hoff ⊢; omega)]
      have hadd : (⟨g', o', none⟩ : Addr).add off = ⟨g', o' + off, none⟩ := by rw [box_add]
      simp [execOp, Instr.storeAt, hax, hadd, Instr.sureAddr, storeVar, hL.sizeOf ht, hcs] at hst ⊢
      simp [hst]
    rw [hrun]
    refine ⟨M, _, _, h, Ext.refl _ _, ?_, by simp only [RA, RT]⟩
    have hblk := setRow_heap w g' cur (spl cur.toList (o' + off) (e y).cells.toList).toArray e' _ hg
    refine hh.step i rfl rfl rfl (by simp [World.setRow]) (fun k hk hne => ?_) (Ext.refl _ _) (fun p v h1 h2 => by rw [h2] at h1; cases h1) (fun j hj => by rw [List.getElem?_set_ne (Ne.symm hj)]) (fun x' hx' => ?_)
    · have : k ≠ g' := fun e => hne _ hi (by rw [e]; rfl)
      simp [World.setRow, Array.getElem?_modify, Ne.symm this]
    · have hlt : i < hp.length := (List.getElem?_eq_some_iff.1 hi).1
      rw [List.getElem?_set_self hlt] at hx'
      obtain rfl : Blk.row (.slice (some ⟨g', o', none⟩) m c) e' sz m (spl cs off us) = x' := by injection hx'
      refine ⟨⟨spl xs off (e y).cells.toList, ⟨by rw [spl_len]; exact hxl, .inr ⟨g', o', c, (spl cur.toList (o' + off) (e y).cells.toList).toArray, rfl, hblk, hnc, hcm, by simpa [spl_len] using hcur, ?_⟩⟩, RTs.spl hxs hct, spl_one hone ho, hsz⟩, fun b' hb' => .inl ⟨_, hi, hb'⟩⟩
      simp only
      rw [spl_eq _ _ _ (by simp at hoff ⊢; omega), spl_eq _ _ _ hoff, ← htk]
      have hk : off + (e y).cells.toList.length ≤ m * sz := by rw [← hxl]; exact hoff
      have hcl3 : o' + m * sz ≤ cur.toList.length := by rw [hxl] at hcl2; simpa using hcl2
      rw [drop_spl cur.toList (e y).cells.toList o' off (by omega)]
      exact take_spl (cur.toList.drop o') (e y).cells.toList off (m * sz) hk (by rw [List.length_drop]; omega)
/-- a row or a variable of the call's own put into an element -/
theorem zSeo {t : TypeId} {ti : TI} {x y : Operand} {i j off n sz : Nat} {v u : Value} {e' : TypeId} {cs : List T} (hb : off + 1 ≤ cs.length) (h : K (.c (.lit undef)) (hp.set i (.row v e' sz n (cs.set off (.lit u))))) (hL : TabOk P L := by exact tok) (hx : ρ x = .eptr i v off := by exact rfl) (hi : hp[i]? = some (.row v e' sz n cs) := by exact rfl) (hy : ρ y = .own j u := by exact rfl) (ht : L.look t = some ti := by exact rfl) (hs : ti.size = 1 := by exact rfl) : LO P F ⟨d, .store t x y, ty, pos, aft, g⟩ ρ hp K :=
  lo_store_eG hL hx hi (us := [.lit u]) (by rw [hy]; exact shut_own) ht (by rw [hs]; rfl) (by rw [hs]; exact hb) h
/-- an append where the other blocks are not written out -/
theorem zApS {t el : TypeId} {ti te : TI} {x y : Operand} {i n m sz : Nat} {v : Value} {cs ts : List T} (h : ∀ v', K (.own i v') (hp.set i (.row v' el sz (n + m) (cs ++ ts)))) (hL : TabOk P L := by exact tok) (hx : ρ x = .own i v := by exact rfl) (hi : hp[i]? = some (.row v el sz n cs) := by exact rfl) (hy : ρ y = .c (.row m sz ts) := by exact rfl) (ht : L.look t = some ti := by exact rfl) (hd : ti.d = .slice el := by exact rfl) (hte : L.look el = some te := by exact rfl) (hsz : te.size = sz := by exact rfl)
    (h63 : n + m ≤ maxLen := by first | (simp only [maxLen]; omega) | (simp only [maxLen]; dsimp only at *; omega)) (hbytes : (n + m) * te.bytes ≤ 140737488355328 := by first | (simp only []; omega) | (dsimp only at *; omega)) : LO P F ⟨d, .call { callee := .builtin .append, args := #[x, y], argTypes := #[t, t] }, ty, pos, aft, g⟩ ρ hp K := lo_app hL hx hi hy ht hd hte hsz h63 hbytes h
/-- onto nil, where the other blocks are not written out -/
theorem zApN {t el : TypeId} {ti te : TI} {x y : Operand} {m sz : Nat} {ts : List T} (h : ∀ v', K (.own hp.length v') (hp ++ [.row v' el sz m ts])) (hL : TabOk P L := by exact tok) (hx : ρ x = .c (.lit (.slice none 0 0)) := by exact rfl) (hy : ρ y = .c (.row m sz ts) := by exact rfl) (ht : L.look t = some ti := by exact rfl) (hd : ti.d = .slice el := by exact rfl) (hte : L.look el = some te := by exact rfl) (hsz : te.size = sz := by exact rfl) (h0 : Nat.ble 1 sz = true := by exact rfl)
    (hbytes : m * te.bytes ≤ 140737488355328 := by first | (simp only []; omega) | (dsimp only at *; omega)) : LO P F ⟨d, .call { callee := .builtin .append, args := #[x, y], argTypes := #[t, t] }, ty, pos, aft, g⟩ ρ hp K := lo_app_nil hL hx hy ht hd hte hsz (Nat.le_of_ble_eq_true h0) hbytes h
end
theorem wk_frzqS {F : Frm} {τ : Nat → AV} {hp : List Blk} {N : Nat} (s : Nat) (ts : List T) {i j b off : Nat} {t : TypeId} {cs : List AV} (hs : τ s = .ptr j b off) (hi : hp[i]? = some (.box b t cs)) (hz : Rzs [] cs ts) (hN : Nat.blt s N = true) : Wk F ⟨τ, hp, N⟩ ⟨upd N s (.c (.pin ts off)) τ, hp.set i .dead, N⟩ := by
  intro M a w hr
  have h1 := heap_frzG hr.heap hi
  obtain ⟨xs, hh, hx, hone⟩ := hr.heap.at_ i _ hi
  have h2 : RT (frB M (Blk.box b t cs).blk w) (.pin ts off) (.pointer (some ⟨b, off, none⟩)) := by
    simp only [RT]
    refine ⟨⟨b, 0, none⟩, xs, by unfold Addr.add; split <;> simp_all, fun j x hj => ?_, RTs.mono (frB_sub _ _ _) _ _ (cls_sound cs ts xs hz hx)⟩
    have hadd : (⟨b, 0, none⟩ : Addr).add j = ⟨b, j, none⟩ := by unfold Addr.add; split <;> simp_all
    rw [hadd]
    have hn : M ⟨b, j, none⟩ = none := (hr.heap.out i _ b hi rfl).2 _ rfl
    have hc : w.cell? ⟨b, j, none⟩ = some x := by rw [cell_of_row _ b j _ _ _ hh]; simpa using hj
    simp [frB, hn, Blk.blk, hc, hone x (List.mem_of_getElem? hj)]
  refine ⟨_, fun k => ?_, hr.size, hr.defers, h1⟩
  simp only [upd]
  cases hc : Nat.beq k s with
  | false => simp only [Bool.false_and, cond_false]; exact RA.mono (frB_sub _ _ _) _ _ (hr.tmps k)
  | true =>
    have := Nat.eq_of_beq_eq_true hc
    subst this
    have h3 : RA M (τ k) (a.tmps.getD k undef) := hr.tmps k
    rw [hs] at h3
    simp only [RA] at h3
    rw [hN]
    simp only [Bool.and_self, cond_true, RA]
    rw [h3]; exact h2
/-- a variable at the head of the blocks becomes closed memory -/
theorem x_frz0 {F : Frm} {P : Program} {Q : Exit → AS → Prop} {c : Go.Code} {τ : Nat → AV} {hp : List Blk} {N : Nat} (s : Nat) (ts : List T) {i b off : Nat} {t : TypeId} {cs : List AV} (h : AC P F c Q ⟨upd N s (.c (.pin ts off)) τ, hp, N⟩) (hs : τ s = .ptr i b off := by exact rfl) (hz : Rzs [] cs ts := by repeat (first | exact rzs_nil | apply rzs_cons | exact rz_c | exact rz_nil rfl | apply rz_agg | exact rz_own rfl | apply rz_fn | exact rz_ptr rfl | apply rz_tup)) (hN : Nat.blt s N = true := by exact rfl) : AC P F c Q ⟨τ, .box b t cs :: hp, N⟩ := by
  refine ac_wk (wk_frzqS (i := 0) s ts hs rfl hz hN) ?_
  show AC P F c Q ⟨_, .dead :: hp, N⟩
  refine x_perm (hp' := hp ++ [Blk.dead]) (List.perm_append_comm (l₁ := [Blk.dead])) ?_
  refine ac_wk (wk_drop hp.length) ?_
  rw [show (hp ++ [Blk.dead]).take hp.length = hp from List.take_left]
  exact h
theorem erase_perm {α : Type} : ∀ {l : List α} {i : Nat} (h : i < l.length), l.Perm (l[i] :: l.eraseIdx i)
  | [], _, h => absurd h (Nat.not_lt_zero _)
  | _ :: _, 0, _ => List.Perm.refl _
  | a :: l, i + 1, h => by
    simp only [List.getElem_cons_succ, List.eraseIdx_cons_succ]
    exact ((erase_perm (l := l) (i := i) (by simpa using h)).cons a).trans (List.Perm.swap _ _ _)
theorem fam_out {α : Type} {f : α → Blk} {l : List α} {i : Nat} {a : α} (h : l[i]? = some a) : (l.map f).Perm (f a :: (l.eraseIdx i).map f) := by
  obtain ⟨h1, rfl⟩ := List.getElem?_eq_some_iff.1 h
  exact (erase_perm h1).map f
theorem fam_in {α : Type} {f : α → Blk} {l : List α} {i : Nat} (h : i < l.length) (a : α) : (f a :: (l.eraseIdx i).map f).Perm ((l.set i a).map f) := by
  have h1 : (l.set i a)[i]? = some a := by simp [h]
  have := fam_out (f := f) h1
  rw [List.eraseIdx_set_eq] at this
  exact this.symm
end Go.Proofs.Ytdogdjcjmhogmaa
namespace Go.Proofs.Ytdogdjcjmhogmaa
open Go.RowKit
section
variable {P : Program} {F : Frm} {L : Tab} {d : Option Tmp} {ty : TypeId} {pos : String} {aft : Array Edge} {g : Option (Nat × Bool)} {ρ : Operand → AV} {hp : List Blk} {K : AV → List Blk → Prop} {te : TI} {x y : Operand} {i b : Nat} {o : Option (List Nat × Nat)} {xT : TypeId}
/-- a walk over a map, where the other blocks are not written out -/
theorem zRgS (kT eT : TypeId) {es : List (Value × T)} (h : ∀ b' st c, st.length = es.length → K (.ptr hp.length b' 0) (hp.set i (.mpx b es (some (st, c))) ++ [.it b' b st c []])) (hu : isMap P xT = some (kT, eT) := by kernel_rfl) (hx : ρ x = .own i (.map (some b)) := by exact rfl) (hi : hp[i]? = some (.mp b es) := by exact rfl) : LO P F ⟨d, .range xT x, ty, pos, aft, g⟩ ρ hp K :=
  lo_range (isMap_eq hu) hx hi h
end
section
variable {P : Program} {F : Frm} {Q : Exit → AS → Prop} {τ : Nat → AV} {hp : List Blk} {N : Nat}
theorem x_unitS {c : Go.Code} (i : Nat) {b : Nat} {es : List (Value × T)} {o : Option (List Nat × Nat)} (hq : AC P F c Q ⟨τ, hp.set i (.mp b es), N⟩) (hi : hp[i]? = some (.mpx b es o) := by exact rfl) : AC P F c Q ⟨τ, hp, N⟩ := ac_wk (wk_unit i hi) hq
end
end Go.Proofs.Ytdogdjcjmhogmaa
