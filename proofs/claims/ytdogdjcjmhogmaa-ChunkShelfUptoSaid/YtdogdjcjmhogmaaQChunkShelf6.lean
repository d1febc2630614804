/-
  Texts of this proof, part 6: Ab43 Ab45 Ab46 Ab47 Ab48 CutPlain.
-/
import Derived.Test.YtdogdjcjmhogmaaQChunkShelf5
import Derived.Laws.IdiomRangeMap
import Derived.Lib.MinMax
namespace Go.Proofs.Ytdogdjcjmhogmaa
open Go.RowKit
theorem leftOf_mem {l : List MapEntry} {seen : Array Nat} {e : MapEntry} (h : e ∈ (leftOf l.toArray seen).toList) : e ∈ l ∧ e.born ∉ seen.toList := by
  have h1 := mem_left h
  refine ⟨by simpa using h1.1, ?_⟩
  have := h1.2
  rw [Array.contains_eq_mem, decide_eq_false_iff_not] at this
  simpa using this
theorem leftOf_none {l : List MapEntry} {seen : Array Nat} (h : (leftOf l.toArray seen).size = 0) : ∀ e ∈ l, e.born ∈ seen.toList := by
  intro e he
  have h1 : leftOf l.toArray seen = #[] := Array.eq_empty_of_size_eq_zero h
  unfold leftOf at h1
  rw [Array.filter_eq_empty_iff] at h1
  have := h1 e (by simpa using he)
  simpa using this
theorem nodup_map_inj {α β : Type} {f : α → β} : ∀ {l : List α} (_ : (l.map f).Nodup) {i j : Nat} (hi : i < l.length) (hj : j < l.length), f l[i] = f l[j] → i = j := by
  intro l h i j hi hj he
  have hp : (l.map f).Pairwise (· ≠ ·) := h
  have hg := List.pairwise_iff_getElem.1 hp
  rcases Nat.lt_trichotomy i j with hl | hl | hl
  · exact absurd (by rw [List.getElem_map, List.getElem_map]; exact he) (hg i j (by simpa using hi) (by simpa using hj) hl)
  · exact hl
  · exact absurd (by rw [List.getElem_map, List.getElem_map]; exact he.symm) (hg j i (by simpa using hj) (by simpa using hi) hl)
theorem map_erase {α β : Type} (f : α → β) : ∀ (l : List α) (j : Nat), (l.eraseIdx j).map f = (l.map f).eraseIdx j
  | [], j => by simp
  | a :: l, 0 => by simp
  | a :: l, j + 1 => by simp [map_erase f l j]
def mdel {α : Type} [DecidableEq α] (k : α) : List (α × T) → List (α × T)
  | [] => []
  | (k', t) :: l => if k = k' then l else (k', t) :: mdel k l
theorem find_del {α : Type} [DecidableEq α] {dk : TypeDesc} {κ : α → Value} (hκ : KeyIs dk κ) (k : α) : ∀ (l : List (α × T)) (es : List MapEntry) (i : Nat), es.map (·.key) = l.map (fun p => κ p.1) →
    (Instr.findNow dk (κ k) es i = some none ∧ mdel k l = l) ∨
    ∃ j e, Instr.findNow dk (κ k) es i = some (some (i + j, e.val)) ∧ es[j]? = some e ∧ mdel k l = l.eraseIdx j
  | [], es, i, h => by
    obtain rfl : es = [] := by simpa using h
    exact .inl ⟨rfl, rfl⟩
  | (k', t') :: l, [], i, h => by simp at h
  | (k', t') :: l, e :: es, i, h => by
    simp only [List.map_cons, List.cons.injEq] at h
    obtain ⟨r, hr, hiff⟩ := MapKept.sameNow_of_keys (hκ.is k) (by rw [h.1]; exact hκ.is k' : MapKept.IsKey dk e.key)
    rw [h.1] at hiff
    by_cases hk : k = k'
    · subst hk
      obtain rfl : r = true := hiff.2 rfl
      exact .inr ⟨0, e, by simp [Instr.findNow, hr], rfl, by simp [mdel]⟩
    · have hrf : r = false := by
        cases r with
        | false => rfl
        | true => exact absurd (hκ.inj _ _ (hiff.1 rfl)) hk
      subst hrf
      rcases find_del hκ k l es (i + 1) h.2 with ⟨h1, h2⟩ | ⟨j, e', h1, h2, h3⟩
      · exact .inl ⟨by simp [Instr.findNow, hr, h1], by simp [mdel, hk, h2]⟩
      · exact .inr ⟨j + 1, e', by simp [Instr.findNow, hr, h1]; omega, by simpa using h2, by simp [mdel, hk, h3]⟩
theorem RTs.erase {M : Mm} : ∀ {ts : List T} {xs : List Value} (j : Nat), RTs M ts xs → RTs M (ts.eraseIdx j) (xs.eraseIdx j)
  | [], _, j, h => by simp only [RTs] at h; subst h; simp [RTs]
  | t :: ts, _, 0, h => by
    simp only [RTs] at h
    obtain ⟨x, r, rfl, h1, h2⟩ := h
    simpa using h2
  | t :: ts, _, j + 1, h => by
    simp only [RTs] at h
    obtain ⟨x, r, rfl, h1, h2⟩ := h
    simp only [List.eraseIdx_cons_succ, RTs]
    exact ⟨x, _, rfl, h1, RTs.erase j h2⟩
section
variable {P : Program} {F : Frm} {d : Option Tmp} {ty : TypeId} {pos : String} {aft : Array Edge} {g : Option (Nat × Bool)} {ρ : Operand → AV} {hp : List Blk} {K : AV → List Blk → Prop}
theorem lo_range {xT kT eT : TypeId} {x : Operand} {i b : Nat} {es : List (Value × T)} (hu : P.underlying xT = some (.map kT eT)) (hx : ρ x = .own i (.map (some b))) (hi : hp[i]? = some (.mp b es))
    (h : ∀ b' st c, st.length = es.length → K (.ptr hp.length b' 0) (hp.set i (.mpx b es (some (st, c))) ++ [.it b' b st c []])) : LO P F ⟨d, .range xT x, ty, pos, aft, g⟩ ρ hp K := by
  refine ⟨fun M e w he hh => ?_⟩
  have h1 := he x (by first | (simp [Op.operands]; done) | simp [Op.operands, Call.operands])
  rw [hx] at h1
  simp only [RA] at h1
  obtain ⟨es', clock, hb, hkeys, hvals, hstm, hst⟩ := hh.at_ i _ hi
  have hlen : es'.length = es.length := by simpa using congrArg List.length hkeys
  have hrun := run_range_map (P := P) w xT kT eT b es'.toArray clock hu hb
  have hil : i < hp.length := (List.getElem?_eq_some_iff.1 hi).1
  have hh2 : HeapOk F M (hp.set i (.mpx b es (some (es'.map (·.born), clock)))) w := by
    have hg : ∀ (j : Nat) (x : Blk), (hp.set i (.mpx b es (some (es'.map (·.born), clock))))[j]? = some x → ∃ y, hp[j]? = some y ∧ x.blk = y.blk ∧ BlkOk M w x := by
      intro j x hj
      by_cases hij : i = j
      · subst hij
        rw [List.getElem?_set_self hil] at hj
        obtain rfl : _ = x := by injection hj
        exact ⟨_, hi, rfl, ⟨es', clock, hb, hkeys, hvals, hstm, fun s hs => by simpa using hs.symm⟩⟩
      · rw [List.getElem?_set_ne hij] at hj
        exact ⟨x, hj, rfl, hh.at_ j x hj⟩
    refine ⟨hh.mem, hh.ext, hh.frm, fun j x hj => (hg j x hj).choose_spec.2.2, fun j k x y q hj hk hx hy => ?_, fun j x q hj hq => ?_⟩
    · obtain ⟨x', h3, h4, -⟩ := hg j x hj
      obtain ⟨y', h5, h6, -⟩ := hg k y hk
      exact hh.sep j k x' y' q h3 h5 (by rw [← h4]; exact hx) (by rw [← h6]; exact hy)
    · obtain ⟨x', h3, h4, -⟩ := hg j x hj
      exact hh.out j x' q h3 (by rw [← h4]; exact hq)
  have hrun2 : (execOp e ⟨d, .range xT x, ty, pos, aft, g⟩).run P w = .ok (.value (.pointer (some ⟨w.heap.size, 0, none⟩))) (w.alloc (.mapIter (some b) clock #[] clock)) := by
    simp [execOp, h1.1, hrun]
  rw [hrun2]
  have hk := h w.heap.size (es'.map (·.born)) clock (by simpa using hlen)
  refine ⟨M, _, _, hk, Ext.refl _ _, ?_, by simp only [RA]⟩
  have hl2 : (hp.set i (.mpx b es (some (es'.map (·.born), clock)))).length = hp.length := List.length_set
  refine hh2.step hp.length rfl rfl rfl (by simp) (fun b hb _ => Below.heap_alloc _ _ _ hb) (Ext.refl _ _) (fun p v h1 h2 => by rw [h2] at h1; cases h1) (fun j hj => ?_) (fun x' hx' => ?_)
  · rcases Nat.lt_or_ge j hp.length with h | h
    · rw [List.getElem?_append_left (by rw [hl2]; exact h)]
    · rw [List.getElem?_eq_none (by rw [List.length_append, hl2]; simp only [List.length_cons, List.length_nil]; omega), List.getElem?_eq_none (by rw [hl2]; omega)]
  · rw [List.getElem?_append_right (by rw [hl2]; exact Nat.le_refl _), hl2] at hx'
    obtain rfl : _ = x' := by simpa using hx'
    refine ⟨⟨heap_alloc_new w _, fun p hp => by cases hp⟩, fun q hq => .inr ?_⟩
    obtain rfl : w.heap.size = q := by simpa [Blk.blk] using hq
    refine ⟨Nat.le_refl _, fun p hp => ?_⟩
    cases hc : M p with
    | none => rfl
    | some v => have := World.block_lt_of_cell? w p (hh.mem p v hc).1; omega
theorem lo_next {x : Operand} {i j b b' c : Nat} {es : List (Value × T)} {st P' : List Nat} (hx : ρ x = .ptr i b' 0) (hi : hp[i]? = some (.it b' b st c P')) (hj : hp[j]? = some (.mpx b es (some (st, c))))
    (hdone : (∀ k, k < es.length → k ∈ P') → K (.c (.tup [.lit (.bool false)])) hp)
    (hmore : ∀ (k : Nat) (u : Value) (t : T), es[k]? = some (u, t) → k ∉ P' → K (.c (.tup [.lit (.bool true), .lit u, t])) (hp.set i (.it b' b st c (P' ++ [k])))) : LO P F ⟨d, .next x false, ty, pos, aft, g⟩ ρ hp K := by
  refine ⟨fun M e w he hh => ?_⟩
  have h1 := he x (by first | (simp [Op.operands]; done) | simp [Op.operands, Call.operands])
  rw [hx] at h1
  simp only [RA] at h1
  obtain ⟨es', clock, hb, hkeys, hvals, hstm, hst⟩ := hh.at_ j _ hj
  obtain ⟨hst1, rfl⟩ : st = es'.map (·.born) ∧ c = clock := by
    have := hst (st, c) rfl
    exact ⟨congrArg Prod.fst this, congrArg Prod.snd this⟩
  obtain ⟨hit, hPl⟩ : w.heap[b']? = some (.mapIter (some b) c (P'.map fun p => st.getD p 0).toArray c) ∧ ∀ p ∈ P', p < st.length := hh.at_ i _ hi
  have hlen : es'.length = es.length := by simpa using congrArg List.length hkeys
  have hil : i < hp.length := (List.getElem?_eq_some_iff.1 hi).1
  have hbl : b' < w.heap.size := (Array.getElem?_eq_some_iff.1 hit).1
  -- the step, told of any world
  have key : ((∀ e ∈ es', e.born ∈ (P'.map fun p => st.getD p 0)) ∧ (Instr.next (.pointer (some ⟨b', 0, none⟩)) false ty).run P w = .ok (.tuple #[.bool false]) w) ∨
      ∃ e ∈ es', e.born ∉ (P'.map fun p => st.getD p 0) ∧ ∃ n : Nat, (Instr.next (.pointer (some ⟨b', 0, none⟩)) false ty).run P w = .ok (.tuple #[.bool true, e.key, e.val]) { w with drawn := w.drawn + n, heap := w.heap.setIfInBounds b' (.mapIter (some b) c ((P'.map fun p => st.getD p 0) ++ [e.born]).toArray c) } := by
    have hold : ∀ x ∈ es', x.born < c := hstm.2
    generalize (P'.map fun p => st.getD p 0) = seenl at hit ⊢
    have hget : (getObj b' : Sem Obj).run P w = .ok (.mapIter (some b) c seenl.toArray c) w := by simp only [getObj, Sem.run, hit]
    have htest : (!seenl.toArray.isEmpty && !es'.toArray.isEmpty && es'.toArray.all (fun x => decide (x.born ≥ c))) = false := next_test_false seenl.toArray es'.toArray c c (fun x hx => hold x (by simpa using hx)) (Nat.le_refl _)
    have hLm : ∀ x ∈ (leftOf es'.toArray seenl.toArray).toList, x ∈ es' ∧ x.born ∉ seenl := fun x hx => by
      have := leftOf_mem hx
      simpa using this
    have hL0 : (leftOf es'.toArray seenl.toArray).size = 0 → ∀ e ∈ es', e.born ∈ seenl := fun h => by
      have := leftOf_none h
      simpa using this
    have hlf : leftOf es'.toArray seenl.toArray = Array.filter (fun e => !seenl.toArray.contains e.born) es'.toArray := rfl
    simp only [Instr.next, Sem.run_bind, hget, MapKept.run_getObj_map hb, Result.andThen, htest, Bool.false_eq_true, if_false]
    rw [← hlf]
    generalize leftOf es'.toArray seenl.toArray = L at hLm hL0 ⊢
    have e1 : L.filter (fun x => decide (x.born < c)) = L := Array.filter_eq_self.2 (fun x hx => by simpa using hold x (hLm x (by simpa using hx)).1)
    have e2 : L.filter (fun x => decide (x.born ≥ c)) = #[] := by
      rw [Array.filter_eq_empty_iff]
      intro x hx
      have := hold x (hLm x (by simpa using hx)).1
      simp
      omega
    simp only [e1, e2, Array.append_empty]
    by_cases h0 : L.size = 0
    · left
      have : L = #[] := Array.eq_empty_of_size_eq_zero h0
      refine ⟨hL0 h0, ?_⟩
      subst this
      simp [choose, Sem.run, Question.forced]
    · right
      have hne : L.isEmpty = false := by simp [Array.isEmpty, h0]
      simp only [hne, Bool.false_eq_true, if_false, Array.empty_append, Array.size_map]
      have hch : ∃ (q n : Nat), q < L.size ∧ (choose (Question.mapNext L.size)).run P w = .ok q { w with drawn := w.drawn + n } := by
        by_cases hf : L.size ≤ 1
        · exact ⟨0, 0, by omega, by simp [choose, Sem.run, Question.forced, hf]⟩
        · exact ⟨_, 1, Nat.mod_lt _ (by omega), by
            simp only [choose, Sem.run, Question.forced, decide_eq_true_eq, hf, if_false, Question.cut]
            rfl⟩
      obtain ⟨q, n, hq, hrun⟩ := hch
      have hmem := hLm L[q] (by simp)
      refine ⟨L[q], hmem.1, hmem.2, n, ?_⟩
      have hset : ∀ o' : Obj, (setObj b' o').run P { w with drawn := w.drawn + n } = .ok () { w with drawn := w.drawn + n, heap := w.heap.setIfInBounds b' o' } := fun o' => by
        simp only [setObj, Sem.run, hit]
      simp only [hrun, Array.getElem?_map, Array.getElem?_eq_getElem hq, Option.map_some, Sem.run_bind, hset, Result.andThen]
      simp
  rcases key with ⟨hall, hrun⟩ | ⟨e0, hm, hn, n, hrun⟩
  · have hrun2 : (execOp e ⟨d, .next x false, ty, pos, aft, g⟩).run P w = .ok (.value (.tuple #[.bool false])) w := by
      simp [execOp, h1, hrun]
    rw [hrun2]
    refine ⟨M, _, _, hdone (fun k hk => ?_), Ext.refl _ _, hh, by simp only [RA, RT, RTs]; exact ⟨[.bool false], rfl, _, _, rfl, rfl, rfl⟩⟩
    have hk' : k < es'.length := by omega
    have := hall es'[k] (List.getElem_mem hk')
    obtain ⟨p, hp, hpe⟩ := List.mem_map.1 this
    have hpl := hPl p hp
    rw [hst1, List.length_map] at hpl
    rw [hst1, List.getD_eq_getElem?_getD, List.getElem?_map, List.getElem?_eq_getElem hpl] at hpe
    have : p = k := nodup_map_inj hstm.1 hpl hk' hpe
    rw [← this]; exact hp
  · obtain ⟨k, hk, rfl⟩ := List.getElem_of_mem hm
    have hk2 : k < es.length := by omega
    have hkey : es'[k].key = es[k].1 := by
      have := congrArg (fun l => l[k]?) hkeys
      simpa [List.getElem?_map, List.getElem?_eq_getElem hk, List.getElem?_eq_getElem hk2] using this
    have hkP : k ∉ P' := fun h => hn (List.mem_map.2 ⟨k, h, by rw [hst1, List.getD_eq_getElem?_getD, List.getElem?_map, List.getElem?_eq_getElem hk]; rfl⟩)
    obtain ⟨u, hu1, hu2⟩ := hvals.get (j := k) (t := es[k].2) (by rw [List.getElem?_map, List.getElem?_eq_getElem hk2]; rfl)
    rw [List.getElem?_map, List.getElem?_eq_getElem hk] at hu1
    obtain rfl : es'[k].val = u := by simpa using hu1
    have hrun2 : (execOp e ⟨d, .next x false, ty, pos, aft, g⟩).run P w = .ok (.value (.tuple #[.bool true, es'[k].key, es'[k].val])) { w with drawn := w.drawn + n, heap := w.heap.setIfInBounds b' (.mapIter (some b) c ((P'.map fun p => st.getD p 0) ++ [es'[k].born]).toArray c) } := by
      simp [execOp, h1, hrun]
    rw [hrun2]
    refine ⟨M, _, _, hmore k es[k].1 es[k].2 (List.getElem?_eq_getElem hk2) hkP, Ext.refl _ _, ?_, by simp only [RA, RT, RTs]; exact ⟨[.bool true, es'[k].key, es'[k].val], rfl, _, _, rfl, rfl, _, _, rfl, hkey, _, _, rfl, hu2, rfl⟩⟩
    refine hh.step i rfl rfl rfl (by simp) (fun q hq hne => ?_) (Ext.refl _ _) (fun p v h1 h2 => by rw [h2] at h1; cases h1) (fun q hq => by rw [List.getElem?_set_ne (Ne.symm hq)]) (fun x' hx' => ?_)
    · have : q ≠ b' := fun e => hne _ hi (by rw [e]; rfl)
      simp [Array.getElem?_setIfInBounds, Ne.symm this]
    · rw [List.getElem?_set_self hil] at hx'
      obtain rfl : _ = x' := by injection hx'
      refine ⟨⟨?_, fun p hp => ?_⟩, fun q hq => .inl ⟨_, hi, hq⟩⟩
      · have : (P' ++ [k]).map (fun p => st.getD p 0) = (P'.map fun p => st.getD p 0) ++ [es'[k].born] := by
          rw [List.map_append, hst1]
          simp [List.getD_eq_getElem?_getD, List.getElem?_map, List.getElem?_eq_getElem hk]
        rw [this]
        simp [Array.getElem?_setIfInBounds, hbl]
      · rcases List.mem_append.1 hp with hp | hp
        · exact hPl p hp
        · rw [List.mem_singleton.1 hp, hst1, List.length_map]; exact hk
/-- an entry is taken out -/
theorem lo_mapDel {α : Type} [DecidableEq α] {κ : α → Value} {dk : TypeDesc} {t tk kT eT : TypeId} {x y : Operand} {i b : Nat} {l : List (α × T)} {k : α} (hκ : KeyIs dk κ) (hu : P.underlying t = some (.map kT eT)) (hk : P.underlying kT = some dk) (hx : ρ x = .own i (.map (some b))) (hi : hp[i]? = some (.mp b (mkeys κ l))) (hy : ρ y = .c (.lit (κ k)))
    (h : K (.c (.tup [])) (hp.set i (.mp b (mkeys κ (mdel k l))))) : LO P F ⟨d, .call { callee := .builtin .delete, args := #[x, y], argTypes := #[t, tk] }, ty, pos, aft, g⟩ ρ hp K := by
  refine ⟨fun M e w he hh => ?_⟩
  have h1 := he x (by first | (simp [Op.operands]; done) | simp [Op.operands, Call.operands])
  rw [hx] at h1
  simp only [RA] at h1
  have h2 := he y (by first | (simp [Op.operands]; done) | simp [Op.operands, Call.operands])
  rw [hy] at h2
  simp only [RA, RT] at h2
  obtain ⟨es, clock, hb, hkeys, hvals, hstm, hst⟩ := hh.at_ i _ hi
  have hkeys' : es.map (·.key) = l.map (fun p => κ p.1) := by rw [hkeys]; simp [mkeys]
  have hvals' : RTs M (l.map (·.2)) (es.map (·.val)) := by simpa [mkeys, Function.comp_def] using hvals
  have hlt : b < w.heap.size := (Array.getElem?_eq_some_iff.1 hb).1
  have hil : i < hp.length := (List.getElem?_eq_some_iff.1 hi).1
  obtain ⟨es', hrun, hke, hva, hsm⟩ : ∃ es' : List MapEntry, (execOp e ⟨d, .call { callee := .builtin .delete, args := #[x, y], argTypes := #[t, tk] }, ty, pos, aft, g⟩).run P w = .ok (.value (.tuple #[])) { w with heap := w.heap.setIfInBounds b (.map es'.toArray clock) } ∧ es'.map (·.key) = (mkeys κ (mdel k l)).map (·.1) ∧ RTs M ((mkeys κ (mdel k l)).map (·.2)) (es'.map (·.val)) ∧ Stm es' clock := by
    rcases find_del hκ k l es 0 hkeys' with ⟨f1, f2⟩ | ⟨j, e', f1, f2, f3⟩
    · refine ⟨es, ?_, ?_, ?_, hstm⟩
      · simp [execOp, resolve, invoke, builtin, Builtin.delete_, h1.1, h2, run_underlying hu, MapKept.run_getObj_map hb, MapKept.run_checkKey hk (hκ.is k), MapKept.run_findKey hk f1, MapKept.run_setObj_map _ hb]
      · rw [f2, hkeys]
      · rw [f2]; exact hvals
    · refine ⟨es.eraseIdx j, ?_, ?_, ?_, ⟨?_, ?_⟩⟩
      · simp [execOp, resolve, invoke, builtin, Builtin.delete_, h1.1, h2, run_underlying hu, MapKept.run_getObj_map hb, MapKept.run_checkKey hk (hκ.is k), MapKept.run_findKey hk f1, MapKept.run_setObj_map _ hb]
      · rw [f3]
        simp only [mkeys, List.map_map]
        rw [map_erase, map_erase, hkeys']
        rfl
      · rw [f3]
        simp only [mkeys, List.map_map]
        rw [map_erase, map_erase]
        exact RTs.erase j (by simpa [Function.comp_def] using hvals')
      · rw [map_erase]
        exact hstm.1.sublist (List.eraseIdx_sublist _ _)
      · intro q hq
        exact hstm.2 q (List.eraseIdx_sublist _ _ |>.subset hq)
  rw [hrun]
  refine ⟨M, _, _, h, Ext.refl _ _, ?_, by simp only [RA, RT, RTs]; exact ⟨[], rfl, rfl⟩⟩
  refine hh.step i rfl rfl rfl (by simp) (fun c hc hne => ?_) (Ext.refl _ _) (fun p v h1 h2 => by rw [h2] at h1; cases h1) (fun j hj => by rw [List.getElem?_set_ne (Ne.symm hj)]) (fun x' hx' => ?_)
  · have : c ≠ b := fun e => hne _ hi (by rw [e]; rfl)
    simp [Array.getElem?_setIfInBounds, Ne.symm this]
  · rw [List.getElem?_set_self hil] at hx'
    obtain rfl : Blk.mp b (mkeys κ (mdel k l)) = x' := by injection hx'
    exact ⟨⟨es', clock, by simp [Array.getElem?_setIfInBounds, hlt], hke, hva, hsm, fun s hs => by cases hs⟩, fun b' hb' => .inl ⟨_, hi, hb'⟩⟩
end
section
variable {P : Program} {F : Frm} {d : Option Tmp} {ty : TypeId} {pos : String} {aft : Array Edge} {g : Option (Nat × Bool)} {ρ : Operand → AV} {hp : List Blk} {K : AV → List Blk → Prop}
theorem zRg (kT eT : TypeId) {xT : TypeId} {x : Operand} {i b n : Nat} {es : List (Value × T)} {hp' : Nat → List Nat → Nat → List Blk} (h : ∀ b' st c, st.length = es.length → K (.ptr n b' 0) (hp' b' st c)) (hu : isMap P xT = some (kT, eT) := by kernel_rfl) (hn : lenU hp = some n := by exact rfl) (hx : ρ x = .own i (.map (some b)) := by exact rfl) (hi : hp[i]? = some (.mp b es) := by exact rfl)
    (hf : ∀ b' st c, evl (hp.set i (.mpx b es (some (st, c))) ++ [.it b' b st c []]) = some (hp' b' st c) := by exact fun _ _ _ => rfl) : LO P F ⟨d, .range xT x, ty, pos, aft, g⟩ ρ hp K :=
  lo_range (isMap_eq hu) hx hi fun b' st c hl => by rw [← evl_eq (hf b' st c), ← lenU_eq hn]; exact h b' st c hl
theorem zNx {x : Operand} {i b b' c : Nat} {es : List (Value × T)} {st P' : List Nat} {hp' : Nat → List Blk} (j : Nat) (hdone : (∀ k, k < es.length → k ∈ P') → K (.c (.tup [.lit (.bool false)])) hp)
    (hmore : ∀ (k : Nat) (u : Value) (t : T), es[k]? = some (u, t) → k ∉ P' → K (.c (.tup [.lit (.bool true), .lit u, t])) (hp' k)) (hx : ρ x = .ptr i b' 0 := by exact rfl) (hi : hp[i]? = some (.it b' b st c P') := by exact rfl) (hj : hp[j]? = some (.mpx b es (some (st, c))) := by exact rfl)
    (hf : ∀ k, evl (hp.set i (.it b' b st c (P' ++ [k]))) = some (hp' k) := by exact fun _ => rfl) : LO P F ⟨d, .next x false, ty, pos, aft, g⟩ ρ hp K :=
  lo_next hx hi hj hdone fun k u t h1 h2 => by rw [← evl_eq (hf k)]; exact hmore k u t h1 h2
theorem zDels (kT eT : TypeId) {t tk : TypeId} {x y : Operand} {i b : Nat} {s : ByteArray} {l : List (ByteArray × T)} {hp' : List Blk} (h : K (.c (.tup [])) hp') (hu : isMap P t = some (kT, eT) := by kernel_rfl) (hk : P.underlying kT = some .string := by kernel_rfl) (hx : ρ x = .own i (.map (some b)) := by exact rfl) (hi : hp[i]? = some (.mp b (mkeys Value.string l)) := by exact rfl) (hy : ρ y = .c (.lit (.string s)) := by exact rfl) (hf : evl (hp.set i (.mp b (mkeys Value.string (mdel s l)))) = some hp' := by exact rfl) :
    LO P F ⟨d, .call { callee := .builtin .delete, args := #[x, y], argTypes := #[t, tk] }, ty, pos, aft, g⟩ ρ hp K := lo_mapDel keyStr (isMap_eq hu) hk hx hi hy (by rw [← evl_eq hf]; exact h)
theorem zDeli (kT eT : TypeId) {t tk : TypeId} {x y : Operand} {i b : Nat} {s : Int} {l : List (Int × T)} {hp' : List Blk} (h : K (.c (.tup [])) hp') (hu : isMap P t = some (kT, eT) := by kernel_rfl) (hk : P.underlying kT = some (.int .i64) := by kernel_rfl) (hx : ρ x = .own i (.map (some b)) := by exact rfl) (hi : hp[i]? = some (.mp b (mkeys (Value.int .i64) l)) := by exact rfl) (hy : ρ y = .c (.lit (.int .i64 s)) := by exact rfl) (hf : evl (hp.set i (.mp b (mkeys (Value.int .i64) (mdel s l)))) = some hp' := by exact rfl) :
    LO P F ⟨d, .call { callee := .builtin .delete, args := #[x, y], argTypes := #[t, tk] }, ty, pos, aft, g⟩ ρ hp K := lo_mapDel (keyInt .i64) (isMap_eq hu) hk hx hi hy (by rw [← evl_eq hf]; exact h)
end
theorem heap_unit {F : Frm} {M : Mm} {hp : List Blk} {w : World} {i b : Nat} {es : List (Value × T)} {o : Option (List Nat × Nat)} (h : HeapOk F M hp w) (hi : hp[i]? = some (.mpx b es o)) : HeapOk F M (hp.set i (.mp b es)) w := by
  have hil : i < hp.length := (List.getElem?_eq_some_iff.1 hi).1
  have hg : ∀ (j : Nat) (x : Blk), (hp.set i (.mp b es))[j]? = some x → ∃ y, hp[j]? = some y ∧ x.blk = y.blk ∧ BlkOk M w x := by
    intro j x hj
    by_cases hij : i = j
    · subst hij
      rw [List.getElem?_set_self hil] at hj
      obtain rfl : _ = x := by injection hj
      obtain ⟨l, clock, h1, h2, h3, h4, -⟩ := h.at_ i _ hi
      exact ⟨_, hi, rfl, ⟨l, clock, h1, h2, h3, h4, fun s hs => by cases hs⟩⟩
    · rw [List.getElem?_set_ne hij] at hj
      exact ⟨x, hj, rfl, h.at_ j x hj⟩
  refine ⟨h.mem, h.ext, h.frm, fun j x hj => (hg j x hj).choose_spec.2.2, fun j k x y q hj hk hx hy => ?_, fun j x q hj hq => ?_⟩
  · obtain ⟨x', h3, h4, -⟩ := hg j x hj
    obtain ⟨y', h5, h6, -⟩ := hg k y hk
    exact h.sep j k x' y' q h3 h5 (by rw [← h4]; exact hx) (by rw [← h6]; exact hy)
  · obtain ⟨x', h3, h4, -⟩ := hg j x hj
    exact h.out j x' q h3 (by rw [← h4]; exact hq)
section
variable {P : Program} {F : Frm} {τ : Nat → AV} {hp : List Blk} {N : Nat} {Q : Exit → AS → Prop}
theorem wk_unit (i : Nat) {b : Nat} {es : List (Value × T)} {o : Option (List Nat × Nat)} (hi : hp[i]? = some (.mpx b es o)) : Wk F ⟨τ, hp, N⟩ ⟨τ, hp.set i (.mp b es), N⟩ := by
  intro M a w hr
  exact ⟨M, hr.tmps, hr.size, hr.defers, heap_unit hr.heap hi⟩
theorem x_unit {c : Go.Code} (i : Nat) {b : Nat} {es : List (Value × T)} {o : Option (List Nat × Nat)} {hp' : List Blk} (hq : AC P F c Q ⟨τ, hp', N⟩) (hi : hp[i]? = some (.mpx b es o) := by exact rfl) (hf : evl (hp.set i (.mp b es)) = some hp' := by exact rfl) : AC P F c Q ⟨τ, hp, N⟩ := ac_wk (wk_unit i hi) (by rw [← evl_eq hf]; exact hq)
end
end Go.Proofs.Ytdogdjcjmhogmaa
namespace Go.Proofs.Ytdogdjcjmhogmaa
open Go.RowKit
section
variable {P : Program} {F : Frm} {L : Tab} {d : Option Tmp} {ty : TypeId} {pos : String} {aft : Array Edge} {g : Option (Nat × Bool)} {ρ : Operand → AV} {hp : List Blk} {K : AV → List Blk → Prop} {α : Type} [DecidableEq α] {κ : α → Value} {dk : TypeDesc} {te : TI} {x y : Operand} {i b : Nat} {o : Option (List Nat × Nat)}
theorem lo_lookup_aggn (hκ : KeyIs dk κ) (hL : TabOk P L) {xT kT eT : TypeId} {l : List (α × T)} {k : α} (hu : P.underlying xT = some (.map kT eT)) (hk : P.underlying kT = some dk) (hte : L.look eT = some te) (ha : te.agg = true) (hx : ρ x = .own i (.map (some b))) (hi : hp[i]? = some (.mpx b (mkeys κ l) o)) (hy : ρ y = .c (.lit (κ k)))
    (h : K (.c ((mget k l).getD (.agg (te.zero.map fun v => T.lit v)))) hp) : LO P F ⟨d, .lookup xT x y false, ty, pos, aft, g⟩ ρ hp K := by
  refine LO.same (fun M e w he hh => ?_) h
  have h1 := he x (by first | (simp [Op.operands]; done) | simp [Op.operands, Call.operands])
  rw [hx] at h1
  simp only [RA] at h1
  have h2 := he y (by first | (simp [Op.operands]; done) | simp [Op.operands, Call.operands])
  rw [hy] at h2
  simp only [RA, RT] at h2
  obtain ⟨es, clock, hb, hkeys, hvals, -, -⟩ := hh.at_ i _ hi
  have hkeys' : es.map (·.key) = l.map (fun p => κ p.1) := by rw [hkeys]; simp [mkeys]
  have hvals' : RTs M (l.map (·.2)) (es.map (·.val)) := by simpa [mkeys, Function.comp_def] using hvals
  rcases find_keys hκ k l es 0 hkeys' with ⟨f1, f2, _⟩ | ⟨j, e', t, f1, f2, f3, f4, _⟩
  · obtain ⟨inf, zv, g1, _, _, g2, g3, g4, g5⟩ := hL.info hte
    rw [ha] at g5
    obtain ⟨a, rfl⟩ : ∃ a, zv = .agg a := by cases zv <;> simp_all
    have hza : a.toList = te.zero := g3
    have hzr : (zeroValue eT).run P w = .ok (.agg a) w := by simp [zeroValue, typeInfo, g1, g2]
    refine ⟨.agg a, ?_, by rw [f2]; simp only [Option.getD_none, RA, RT]; exact ⟨te.zero, by rw [← hza], lits_rts M te.zero⟩⟩
    simp [execOp, Instr.lookup, h1.1, h2, run_underlying hu, MapKept.run_getObj_map hb, MapKept.run_checkKey hk (hκ.is k), MapKept.run_findKey hk f1, hzr]
  · obtain ⟨u, hu1, hu2⟩ := hvals'.get (j := j) (t := t) (by rw [List.getElem?_map, f3]; rfl)
    rw [List.getElem?_map, f2] at hu1
    obtain rfl : e'.val = u := by simpa using hu1
    refine ⟨e'.val, ?_, by rw [f4]; simpa only [Option.getD_some, RA] using hu2⟩
    simp [execOp, Instr.lookup, h1.1, h2, run_underlying hu, MapKept.run_getObj_map hb, MapKept.run_checkKey hk (hκ.is k), MapKept.run_findKey hk f1]
end
section
variable {P : Program} {F : Frm} {L : Tab} {d : Option Tmp} {ty : TypeId} {pos : String} {aft : Array Edge} {g : Option (Nat × Bool)} {ρ : Operand → AV} {hp : List Blk} {K : AV → List Blk → Prop} {te : TI} {x y : Operand} {i b : Nat} {o : Option (List Nat × Nat)} {xT : TypeId}
/-- an entry is written, the map told anew -/
theorem zUpt (kT eT : TypeId) {y z : Operand} {s : ByteArray} {l l' : List (ByteArray × T)} {t : T} {hp' : List Blk} (hl : mput s t l = l') (h : K (.c (.lit undef)) hp') (hu : isMap P xT = some (kT, eT) := by kernel_rfl) (hk : P.underlying kT = some .string := by kernel_rfl) (hx : ρ x = .own i (.map (some b)) := by exact rfl) (hi : hp[i]? = some (.mp b (mkeys Value.string l)) := by exact rfl) (hy : ρ y = .c (.lit (.string s)) := by exact rfl) (hz : Rzs [] [ρ z] [t] := by repeat (first | exact rzs_nil | apply rzs_cons | exact rz_c | exact rz_nil rfl | apply rz_agg | apply rz_fn | apply rz_tup)) (hf : evl (hp.set i (.mp b (mkeys Value.string l'))) = some hp' := by exact rfl) :
    LO P F ⟨d, .mapUpdate xT x y z, ty, pos, aft, g⟩ ρ hp K := lo_mapUpdate keyStr (isMap_eq hu) hk hx hi hy (fun M u h => by have := re_cls hz M u h; simpa only [RA] using this) (.inl rfl) (by rw [hl, ← evl_eq hf] at *; exact h)
theorem zDelt (kT eT : TypeId) {tk : TypeId} {y : Operand} {s : ByteArray} {l l' : List (ByteArray × T)} {hp' : List Blk} (hl : mdel s l = l') (h : K (.c (.tup [])) hp') (hu : isMap P xT = some (kT, eT) := by kernel_rfl) (hk : P.underlying kT = some .string := by kernel_rfl) (hx : ρ x = .own i (.map (some b)) := by exact rfl) (hi : hp[i]? = some (.mp b (mkeys Value.string l)) := by exact rfl) (hy : ρ y = .c (.lit (.string s)) := by exact rfl) (hf : evl (hp.set i (.mp b (mkeys Value.string l'))) = some hp' := by exact rfl) :
    LO P F ⟨d, .call { callee := .builtin .delete, args := #[x, y], argTypes := #[xT, tk] }, ty, pos, aft, g⟩ ρ hp K := zDels kT eT (hp' := hp') (l := l) h hu hk hx hi hy (by rw [hl]; exact hf)
end
end Go.Proofs.Ytdogdjcjmhogmaa
namespace Go.Proofs.Ytdogdjcjmhogmaa
open Go.RowKit
section
variable {P : Program} {F : Frm} {d : Option Tmp} {ty : TypeId} {pos : String} {aft : Array Edge} {g : Option (Nat × Bool)} {ρ : Operand → AV} {hp : List Blk} {K : AV → List Blk → Prop}
theorem lo_entry {x : Operand} {i j b b' c k : Nat} {es : List (Value × T)} {st P' : List Nat} {u : Value} {t : T} (hx : ρ x = .ptr i b' 0) (hi : hp[i]? = some (.it b' b st c (P' ++ [k]))) (hj : hp[j]? = some (.mpx b es (some (st, c)))) (hk : es[k]? = some (u, t))
    (h : K (.c (.tup [.lit u, t])) hp) : LO P F ⟨d, .entry x, ty, pos, aft, g⟩ ρ hp K := by
  refine LO.same (fun M e w he hh => ?_) h
  have h1 := he x (by first | (simp [Op.operands]; done) | simp [Op.operands, Call.operands])
  rw [hx] at h1
  simp only [RA] at h1
  obtain ⟨es', clock, hb, hkeys, hvals, hstm, hst⟩ := hh.at_ j _ hj
  obtain ⟨hst1, rfl⟩ : st = es'.map (·.born) ∧ c = clock := by
    have := hst (st, c) rfl
    exact ⟨congrArg Prod.fst this, congrArg Prod.snd this⟩
  obtain ⟨hit, -⟩ : w.heap[b']? = some (.mapIter (some b) c ((P' ++ [k]).map fun p => st.getD p 0).toArray c) ∧ ∀ p ∈ P' ++ [k], p < st.length := hh.at_ i _ hi
  have hlen : es'.length = es.length := by simpa using congrArg List.length hkeys
  obtain ⟨hk2, hke⟩ := List.getElem?_eq_some_iff.1 hk
  have hk1 : k < es'.length := by omega
  have hkey : es'[k].key = u := by
    have := congrArg (fun l => l[k]?) hkeys
    simp only [List.getElem?_map, List.getElem?_eq_getElem hk1, hk, Option.map_some, Option.some.injEq] at this
    exact this
  obtain ⟨z, hz1, hz2⟩ := hvals.get (j := k) (t := t) (by rw [List.getElem?_map, hk]; rfl)
  rw [List.getElem?_map, List.getElem?_eq_getElem hk1] at hz1
  obtain rfl : es'[k].val = z := by simpa using hz1
  have hborn : st.getD k 0 = es'[k].born := by rw [hst1]; simp [List.getD_eq_getElem?_getD, List.getElem?_map, List.getElem?_eq_getElem hk1]
  have hseen : ((P' ++ [k]).map fun p => st.getD p 0) = (P'.map fun p => st.getD p 0) ++ [es'[k].born] := by
    rw [List.map_append, ← hborn]; rfl
  rw [hseen] at hit
  have hfind := find_born es'[k] es' hstm.1 (List.getElem_mem hk1)
  have hback : (((P'.map fun p => st.getD p 0) ++ [es'[k].born]).toArray).back? = some es'[k].born := by simp
  generalize ((P'.map fun p => st.getD p 0) ++ [es'[k].born]).toArray = seen at *
  have hrun : (Instr.entry (.pointer (some ⟨b', 0, none⟩))).run P w = .ok (.tuple #[es'[k].key, es'[k].val]) w := by
    have hget : (getObj b' : Sem Obj).run P w = .ok (.mapIter (some b) c seen c) w := by simp only [getObj, Sem.run, hit]
    simp only [Instr.entry, Sem.run_bind, hget, MapKept.run_getObj_map hb, Result.andThen, hback, bne_self_eq_false, Bool.false_eq_true, if_false]
    have hf2 : es'.toArray.find? (fun e => e.born == es'[k].born) = some es'[k] := by rw [← Array.find?_toList]; exact hfind
    rw [hf2]
    rfl
  refine ⟨.tuple #[es'[k].key, es'[k].val], ?_, by simp only [RA, RT, RTs]; exact ⟨[es'[k].key, es'[k].val], rfl, _, _, rfl, hkey, _, _, rfl, hz2, rfl⟩⟩
  simp [execOp, h1, hrun]
theorem zEn {x : Operand} {i b b' c k : Nat} {es : List (Value × T)} {st P' : List Nat} {u : Value} {t : T} (j : Nat) (hk : es[k]? = some (u, t)) (h : K (.c (.tup [.lit u, t])) hp) (hx : ρ x = .ptr i b' 0 := by exact rfl) (hi : hp[i]? = some (.it b' b st c (P' ++ [k])) := by exact rfl) (hj : hp[j]? = some (.mpx b es (some (st, c))) := by exact rfl) : LO P F ⟨d, .entry x, ty, pos, aft, g⟩ ρ hp K :=
  lo_entry hx hi hj hk h
end
theorem walk_len {l : List Nat} {n : Nat} (h : l.Nodup) (hl : ∀ p ∈ l, p < n) : l.length ≤ n := by
  have := h.length_le_of_subset (l₂ := List.range n) fun x hx => List.mem_range.2 (hl x hx)
  simpa using this
theorem walk_snoc {l : List Nat} {n k : Nat} (h : l.Nodup) (hl : ∀ p ∈ l, p < n) (hk : k < n) (hn : k ∉ l) : (l ++ [k]).Nodup ∧ ∀ p ∈ l ++ [k], p < n := by
  refine ⟨?_, fun p hp => ?_⟩
  · rw [List.nodup_append]
    refine ⟨h, by simp, fun a ha b hb e => ?_⟩
    rw [List.mem_singleton.1 hb] at e
    rw [e] at ha; exact hn ha
  · rcases List.mem_append.1 hp with hp | hp
    · exact hl p hp
    · rw [List.mem_singleton.1 hp]; exact hk
end Go.Proofs.Ytdogdjcjmhogmaa
namespace Go.Proofs.Ytdogdjcjmhogmaa
open Go.RowKit
def Dj (x y : Blk) : Prop := ∀ b, x.blk = some b → y.blk ≠ some b
theorem Dj.symm {x y : Blk} (h : Dj x y) : Dj y x := fun b h1 h2 => h b h2 h1
structure HpOk (F : Frm) (M : Mm) (hp : List Blk) (w : World) : Prop where
  mem : MemOk M w
  ext : Ext F.may F.M0 M
  frm : Keeps F w
  at_ : ∀ x ∈ hp, BlkOk M w x
  sep : hp.Pairwise Dj
  out : ∀ x ∈ hp, ∀ b, x.blk = some b → F.may b ∧ ∀ p : Addr, p.block = b → M p = none
section
variable {F : Frm} {M : Mm} {hp hp' : List Blk} {w : World}
theorem HeapOk.all (h : HeapOk F M hp w) : HpOk F M hp w := by
  refine ⟨h.mem, h.ext, h.frm, fun x hx => ?_, ?_, fun x hx b hb => ?_⟩
  · obtain ⟨i, hi⟩ := List.getElem?_of_mem hx
    exact h.at_ i x hi
  · rw [List.pairwise_iff_getElem]
    intro i j hi hj hij b h1 h2
    have := h.sep i j _ _ b (List.getElem?_eq_getElem hi) (List.getElem?_eq_getElem hj) h1 h2
    omega
  · obtain ⟨i, hi⟩ := List.getElem?_of_mem hx
    exact h.out i x b hi hb
theorem HpOk.heap (h : HpOk F M hp w) : HeapOk F M hp w := by
  have hs := List.pairwise_iff_getElem.1 h.sep
  refine ⟨h.mem, h.ext, h.frm, fun i x hi => h.at_ x (List.mem_of_getElem? hi), fun i j x y b hi hj hx hy => ?_, fun i x b hi hb => h.out x (List.mem_of_getElem? hi) b hb⟩
  obtain ⟨hi', rfl⟩ := List.getElem?_eq_some_iff.1 hi
  obtain ⟨hj', rfl⟩ := List.getElem?_eq_some_iff.1 hj
  rcases Nat.lt_trichotomy i j with hlt | rfl | hlt
  · exact absurd hy (hs i j hi' hj' hlt b hx)
  · rfl
  · exact absurd hx (hs j i hj' hi' hlt b hy)
theorem HeapOk.perm (h : HeapOk F M hp w) (hq : hp.Perm hp') : HeapOk F M hp' w :=
  let h := h.all
  HpOk.heap ⟨h.mem, h.ext, h.frm, fun x hx => h.at_ x (hq.mem_iff.2 hx), (hq.pairwise_iff (fun h => Dj.symm h)).1 h.sep, fun x hx => h.out x (hq.mem_iff.2 hx)⟩
theorem wk_perm {τ : Nat → AV} {N : Nat} (hq : hp.Perm hp') : Wk F ⟨τ, hp, N⟩ ⟨τ, hp', N⟩ := fun M _ _ hr => ⟨M, hr.tmps, hr.size, hr.defers, hr.heap.perm hq⟩
theorem sub_gx2 {A B : List Blk} (h : HeapOk F M (A ++ B) w) : ∀ x ∈ globTab, ¬ ∃ (i : Nat) (y : Blk), A[i]? = some y ∧ y.blk = some x.1 := by
  rintro x hx ⟨i, y, h1, h2⟩
  obtain ⟨t, fr, e⟩ := F.G x hx
  rcases (h.all.out y (List.mem_append_left _ (List.mem_of_getElem? h1)) x.1 h2).1 with h4 | h4
  · exact F.GX x hx h4
  · have := (Array.getElem?_eq_some_iff.1 e).1; omega
theorem HeapOk.part {A B : List Blk} (h : HeapOk F M (A ++ B) w) : HeapOk (subF M A w h.glob (sub_gx2 h)) M A w := by
  have hq := h.all
  refine HpOk.heap ⟨h.mem, Ext.refl _ _, ⟨rfl, rfl, rfl, Nat.le_refl _, fun _ _ _ => rfl⟩, fun x hx => hq.at_ x (List.mem_append_left _ hx), (List.pairwise_append.1 hq.sep).1, fun x hx b hb => ?_⟩
  obtain ⟨i, hi⟩ := List.getElem?_of_mem hx
  exact ⟨.inl ⟨i, x, hi, hb⟩, (hq.out x (List.mem_append_left _ hx) b hb).2⟩
theorem part_may {A B : List Blk} (h : HeapOk F M (A ++ B) w) (b : Nat) (hb : (subF M A w h.glob (sub_gx2 h)).may b) : F.may b := by
  rcases hb with ⟨i, x, hx, hxb⟩ | hb
  · exact (h.all.out x (List.mem_append_left _ (List.mem_of_getElem? hx)) b hxb).1
  · exact .inr (Nat.le_trans h.frm.size hb)
theorem HeapOk.join {A B A' : List Blk} {M' : Mm} {w' : World} (h : HeapOk F M (A ++ B) w) (h2 : HeapOk (subF M A w h.glob (sub_gx2 h)) M' A' w') : HeapOk F M' (A' ++ B) w' := by
  have hq := h.all
  have hq2 := h2.all
  have hM : Ext (subF M A w h.glob (sub_gx2 h)).may M M' := h2.ext
  have hX : ∀ b, (subF M A w h.glob (sub_gx2 h)).X b → ∃ x ∈ A, x.blk = some b := by
    rintro b ⟨i, x, hx, hb⟩
    exact ⟨x, List.mem_of_getElem? hx, hb⟩
  have hsep := List.pairwise_append.1 hq.sep
  have hold : ∀ x ∈ B, ∀ b, x.blk = some b → b < w.heap.size ∧ ¬ (subF M A w h.glob (sub_gx2 h)).X b := by
    intro x hx b hb
    refine ⟨(hq.at_ x (List.mem_append_right _ hx)).lt hb, fun hXb => ?_⟩
    obtain ⟨y, hy, hyb⟩ := hX b hXb
    exact hsep.2.2 y hy x hx b hyb hb
  refine HpOk.heap ⟨h2.mem, h.ext.trans (hM.to (part_may h)), ⟨h2.frm.os.trans h.frm.os, h2.frm.tape.trans h.frm.tape, h2.frm.output.trans h.frm.output, Nat.le_trans h.frm.size h2.frm.size, fun b hb hnX => ?_⟩, fun x hx => ?_, List.pairwise_append.2 ⟨hq2.sep, hsep.2.1, fun x hx y hy b hxb hyb => ?_⟩, fun x hx b hxb => ?_⟩
  · refine (h2.frm.block b (Nat.lt_of_lt_of_le hb h.frm.size) fun hXb => ?_).trans (h.frm.block b hb hnX)
    obtain ⟨y, hy, hyb⟩ := hX b hXb
    rcases (hq.out y (List.mem_append_left _ hy) b hyb).1 with h3 | h3
    · exact hnX h3
    · omega
  · rcases List.mem_append.1 hx with hx | hx
    · exact hq2.at_ x hx
    · exact (hq.at_ x (List.mem_append_right _ hx)).keep hM.sub fun b hb hlt => h2.frm.block b hlt (hold x hx b hb).2
  · obtain ⟨h3, h4⟩ := hold y hy b hyb
    rcases (hq2.out x hx b hxb).1 with h5 | h5
    · exact h4 h5
    · have : w.heap.size ≤ b := h5
      omega
  · rcases List.mem_append.1 hx with hx | hx
    · obtain ⟨h3, h4⟩ := hq2.out x hx b hxb
      refine ⟨?_, h4⟩
      rcases h3 with h5 | h5
      · obtain ⟨y, hy, hyb⟩ := hX b h5
        exact (hq.out y (List.mem_append_left _ hy) b hyb).1
      · exact .inr (Nat.le_trans h.frm.size h5)
    · obtain ⟨h3, h4⟩ := hq.out x (List.mem_append_right _ hx) b hxb
      refine ⟨h3, fun p hp' => ?_⟩
      have hlt := hold x hx b hxb
      cases hc : M' p with
      | none => rfl
      | some v =>
        rcases hM.2 p v hc with h5 | h5
        · rw [h4 p hp'] at h5; cases h5
        · rcases h5 with h6 | h6
          · exact absurd (hp' ▸ h6) hlt.2
          · have h7 : w.heap.size ≤ p.block := h6
            omega
end
section
variable {P : Program} {F : Frm} {Q : Exit → AS → Prop} {τ : Nat → AV} {hp hp' : List Blk} {N : Nat}
theorem x_perm {c : Go.Code} (hq : hp.Perm hp') (h : AC P F c Q ⟨τ, hp', N⟩) : AC P F c Q ⟨τ, hp, N⟩ := ac_wk (wk_perm hq) h
theorem x_eq {c : Go.Code} (hq : hp = hp') (h : AC P F c Q ⟨τ, hp', N⟩) : AC P F c Q ⟨τ, hp, N⟩ := by subst hq; exact h
/-- the code touches the blocks of A alone -/
theorem x_frame {c : Go.Code} (A B : List Blk) (hq : hp.Perm (A ++ B)) (h : ∀ F', AC P F' c (fun e σ' => Q e ⟨σ'.tmps, σ'.hp ++ B, σ'.N⟩) ⟨τ, A, N⟩) : AC P F c Q ⟨τ, hp, N⟩ := by
  refine x_perm hq ⟨fun M a w hr => ?_⟩
  have hh := hr.heap
  refine wp_mono ((h (subF M A w hh.glob (sub_gx2 hh))).out M a w ⟨hr.tmps, hr.size, hr.defers, hh.part⟩) ?_
  rintro e a' w' ⟨M', σ', hq', hr'⟩
  exact ⟨M', _, hq', hr'.tmps, hr'.size, hr'.defers, hh.join hr'.heap⟩
/-- nil in a slot becomes a row of the call's own, anywhere among the blocks -/
theorem x_ownP {c : Go.Code} (s : Nat) (e : TypeId) (sz : Nat) (k : Nat) (hq : (hp ++ [Blk.row (.slice none 0 0) e sz 0 []]).Perm hp') (h : AC P F c Q ⟨upd N s (.own k (.slice none 0 0)) τ, hp', N⟩) (h0 : Nat.ble 1 sz = true := by exact rfl) (hs : τ s = .c (.lit (.slice none 0 0)) := by exact rfl) : AC P F c Q ⟨τ, hp, N⟩ := by
  refine ac_wk ?_ h
  intro M a w hr
  have hh : HeapOk F M (hp ++ [.row (.slice none 0 0) e sz 0 []]) w :=
    push_row hr.heap rfl rfl rfl (Nat.le_refl _) (fun _ _ => rfl) (Ext.refl _ _) (fun p v h1 h2 => by rw [h2] at h1; cases h1) ⟨[], ownsO_nil _ _ _, by simp only [RTs], fun x hx => by simp at hx, Nat.le_of_ble_eq_true h0⟩ (fun b hb => by simp [Blk.blk, Value.ownBlock] at hb)
  refine ⟨M, fun i => ?_, hr.size, hr.defers, hh.perm hq⟩
  have h1 := hr.tmps i
  simp only [upd]
  cases hc : Nat.beq i s with
  | false => simp only [Bool.false_and, cond_false]; exact h1
  | true =>
    obtain rfl := Nat.eq_of_beq_eq_true hc
    cases hN : Nat.blt i N with
    | false => simp only [Bool.and_false, cond_false]; exact h1
    | true =>
      simp only [hs, RA, RT] at h1
      simp only [Bool.and_true, cond_true, RA]
      exact ⟨h1, rfl⟩
/-- a row of the call's own becomes memory that only is read -/
theorem x_fzS {c : Go.Code} (s : Nat) {i : Nat} {v : Value} {e : TypeId} {sz n : Nat} {ts : List T} (h : AC P F c Q ⟨upd N s (.c (.row n sz ts)) τ, hp.set i .dead, N⟩) (hs : τ s = .own i v := by exact rfl) (hi : hp[i]? = some (.row v e sz n ts) := by exact rfl) : AC P F c Q ⟨τ, hp, N⟩ := by
  refine ac_wk ?_ h
  intro M a w hr
  obtain ⟨h1, h2⟩ := heap_frz hr.heap hi
  refine ⟨_, fun k => ?_, hr.size, hr.defers, h1⟩
  have h3 := hr.tmps k
  simp only [upd]
  cases hc : Nat.beq k s with
  | false => simp only [Bool.false_and, cond_false]; exact RA.mono (frB_sub _ _ _) _ _ h3
  | true =>
    obtain rfl := Nat.eq_of_beq_eq_true hc
    cases hN : Nat.blt k N with
    | false => simp only [Bool.and_false, cond_false]; exact RA.mono (frB_sub _ _ _) _ _ h3
    | true =>
      simp only [hs, RA] at h3
      simp only [Bool.and_true, cond_true, RA]
      rw [h3.1]; exact h2
/-- what a variable holds, said otherwise -/
theorem wk_boxR (i : Nat) {b : Nat} {t : TypeId} {cs : List AV} (cs' : List AV) (hi : hp[i]? = some (.box b t cs)) (hz : Res cs cs') : Wk F ⟨τ, hp, N⟩ ⟨τ, hp.set i (.box b t cs'), N⟩ := by
  intro M a w hr
  refine ⟨M, hr.tmps, hr.size, hr.defers, hr.heap.step i rfl rfl rfl (Nat.le_refl _) (fun _ _ _ => rfl) (Ext.refl _ _) (fun p v h1 h2 => by rw [h2] at h1; cases h1) (fun j hj => by rw [List.getElem?_set_ne (Ne.symm hj)]) (fun x' hx' => ?_)⟩
  have hlt : i < hp.length := (List.getElem?_eq_some_iff.1 hi).1
  rw [List.getElem?_set_self hlt] at hx'
  obtain rfl : Blk.box b t cs' = x' := by injection hx'
  obtain ⟨xs, h1, h2, h3⟩ := hr.heap.at_ i _ hi
  exact ⟨⟨xs, h1, hz _ _ h2, h3⟩, fun b' hb' => .inl ⟨_, hi, hb'⟩⟩
theorem x_boxR {c : Go.Code} (i : Nat) (cs' : List AV) {b : Nat} {t : TypeId} {cs : List AV} (h : AC P F c Q ⟨τ, hp', N⟩) (hi : hp[i]? = some (.box b t cs) := by exact rfl) (hz : Res cs cs' := by repeat (first | exact res_nil | apply res_cons | exact re_own | exact re_ptr | exact re_refl)) (hf : evl (hp.set i (.box b t cs')) = some hp' := by exact rfl) : AC P F c Q ⟨τ, hp, N⟩ :=
  ac_wk (wk_boxR i cs' hi hz) (by rw [← evl_eq hf]; exact h)
end
section
variable {P : Program} {F : Frm} {o : Oper} {ρ : Operand → AV} {hp : List Blk} {K : AV → List Blk → Prop}
/-- an operation touches the blocks of A alone -/
theorem lo_frame (A B : List Blk) (hq : hp.Perm (A ++ B)) (h : ∀ F', LO P F' o ρ A (fun v A' => K v (A' ++ B))) : LO P F o ρ hp K := by
  refine ⟨fun M e w he hh => ?_⟩
  have hh := hh.perm hq
  refine ((h (subF M A w hh.glob (sub_gx2 hh))).out M e w he hh.part).mono ?_
  rintro u w' ⟨M', v, A', hK, hx, hh2, hr⟩
  exact ⟨M', v, _, hK, hx.to (part_may hh), hh.join hh2, hr⟩
/-- what comes out is a pointer to a variable of the call's own, or a map of the call's own -/
theorem lo_asp (j : Nat) (h : LO P F o ρ hp fun a hp' => ∃ b off, a = .c (.lit (.pointer (some ⟨b, off, none⟩))) ∧ K (.ptr j b off) hp') : LO P F o ρ hp K := by
  refine ⟨fun M e w he hh => (h.out M e w he hh).mono ?_⟩
  rintro u w' ⟨M', a, hp', ⟨b, off, rfl, hK⟩, hx, hh2, hr⟩
  exact ⟨M', _, hp', hK, hx, hh2, by simpa only [RA, RT] using hr⟩
end
theorem zGS {L : Tab} {σ : AS} {res : List ResultVar} {k : Nat} {R : AV → List Blk → Prop} {e : Exit} {vs : List AV} {hq : List Blk} (hh : σ.hp.take k = hq) (h : R (outA vs) hq) (he : e = .normal ∨ e = .ret := by first | exact .inl rfl | exact .inr rfl)
    (ho : OutsA L σ res vs := by repeat (first | exact outsA_nil | apply outsA_cons | (apply outA_tmp; (focus exact rfl)) | (apply outA_agg; (focus exact rfl); (focus exact rfl); (focus exact rfl); (focus exact rfl); (focus exact rfl); (focus exact rfl)) | (apply outA_one; (focus exact rfl); (focus exact rfl); (focus exact rfl); (focus exact rfl); (focus exact rfl)))) : FinG L res k R e σ := ⟨he, vs, ho, by rw [hh]; exact h⟩
theorem re_lp {i b off : Nat} : Re (.c (.lit (.pointer (some ⟨b, off, none⟩)))) (.ptr i b off) := fun M u h => by simp only [RA, RT] at h ⊢; exact h
section
variable {P : Program} {F : Frm} {L : Tab} {d : Option Tmp} {ty : TypeId} {pos : String} {aft : Array Edge} {g : Option (Nat × Bool)} {ρ : Operand → AV} {hp : List Blk} {K : AV → List Blk → Prop}
/-- a call that is handed all the blocks -/
theorem zCallAll {f : FuncId} {y : Operand} {xs : List Operand} {ats : Array TypeId} {asq cap : List AV} {hs : List Blk} {R : AV → List Blk → Prop} (hc : AG P f asq hs R) (hq : hp.Perm hs) (h : ∀ r hs2, R r hs2 → ∃ r', Re r r' ∧ K r' hs2) (hy : ρ y = .fn (.func f) cap := by exact rfl)
    (hx : Res (xs.map ρ ++ cap) asq := by repeat (first | exact res_nil | apply res_cons | exact re_own | exact re_ptr | exact re_refl | apply re_cls | exact rzs_nil | apply rzs_cons | exact rz_c | exact rz_nil rfl | apply rz_agg | apply rz_fn | apply rz_tup)) :
    LO P F ⟨d, .call { callee := .value y, args := xs.toArray, argTypes := ats }, ty, pos, aft, g⟩ ρ hp K := by
  refine ⟨fun M e w he hh => ?_⟩
  obtain ⟨hE, hcall⟩ := hc
  have h1 := he y (by simp [Op.operands, Call.operands])
  rw [hy] at h1
  simp only [RA] at h1
  obtain ⟨cs, hu, hcs⟩ := h1
  rw [run_call hE hu]
  have hargs := hx M _ ((ev_all xs (fun x hx => he x (by simp [Op.operands, Call.operands, hx]))).app hcs)
  refine (hcall F M w _ (hh.perm hq) hargs).mono ?_
  rintro e' w' ⟨v, r, hs2, M', rfl, hR, hM, hh2, hr⟩
  obtain ⟨r', hre, hK⟩ := h r hs2 hR
  exact ⟨v, rfl, M', r', hs2, hK, hM, hh2, hre M' v hr⟩
/-- a call that looks at the caller's own, and hands back a fresh row of flat cells, which only is read from here on -/
theorem zPeekC {f : FuncId} {y : Operand} {xs : List Operand} {ats : Array TypeId} {ts : List T} {R : AV → List Blk → Prop} {cap : List AV} {e : TypeId} {sz n : Nat} {cs : List T} (hc : AG P f (ts.map .c) [] R) (hR : ∀ r hs, R r hs → ∃ v, r = .own 0 v ∧ hs = [.row v e sz n cs]) (hfl : flatTs cs = true) (h : K (.c (.row n sz cs)) hp) (hy : ρ y = .fn (.func f) cap := by exact rfl)
    (hx : Rz2s hp (xs.map ρ ++ cap) ts := by repeat (first | exact rz2s_nil | apply rz2s_cons | apply rz2_fn | (apply rz2_ptr; (focus exact rfl)) | apply rz2_c | apply rz2_own | apply rz2_agg | exact rzs_nil | apply rzs_cons | exact rz_c | exact rz_nil rfl | apply rz_agg | exact rz_own rfl | apply rz_fn | exact rz_ptr rfl | apply rz_tup)) : LO P F ⟨d, .call { callee := .value y, args := xs.toArray, argTypes := ats }, ty, pos, aft, g⟩ ρ hp K := by
  refine ⟨fun M ev w he hh => ?_⟩
  obtain ⟨hE, hcall⟩ := hc
  have h1 := he y (by simp [Op.operands, Call.operands])
  rw [hy] at h1
  simp only [RA] at h1
  obtain ⟨us, hu, hcs⟩ := h1
  rw [run_call hE hu]
  have hargs := rz2s_sound hh (B := 0) (fun _ _ _ _ _ => Nat.zero_le _) _ _ _ hx ((ev_all xs (fun x hx => he x (by simp [Op.operands, Call.operands, hx]))).app hcs)
  have hH : HeapOk ⟨w, fun _ => False, frz M 0 w, hh.glob, fun _ _ h => h⟩ (frz M 0 w) [] w :=
    ⟨frz_ok hh.mem 0, Ext.refl _ _, ⟨rfl, rfl, rfl, Nat.le_refl _, fun _ _ _ => rfl⟩, fun i x hx => by simp at hx, fun i j x y b hx => by simp at hx, fun i x b hx => by simp at hx⟩
  refine (hcall _ _ w _ hH (RAs.ofT hargs)).mono ?_
  rintro e' w' ⟨u, r, hs', M', rfl, hr, _, hh2, hru⟩
  obtain ⟨v, rfl, rfl⟩ := hR r hs' hr
  obtain ⟨vs, ho, hrs, hone, h0⟩ := hh2.at_ 0 _ rfl
  have hp1 : HeapOk F M (hp ++ [.row v e sz n cs]) w' := by
    refine push_row hh hh2.frm.os hh2.frm.tape hh2.frm.output hh2.frm.size (fun b hb => hh2.frm.block b hb (fun h => h)) (Ext.refl _ _) (fun p v h1 h2 => by rw [h2] at h1; cases h1) ⟨vs, ho, flats_any _ _ hfl hrs, hone, h0⟩ (fun b hb => ?_)
    obtain ⟨h3, _⟩ := hh2.out 0 _ b rfl hb
    have h4 : w.heap.size ≤ b := h3.resolve_left (fun h => h)
    refine ⟨h4, fun p hp => ?_⟩
    cases hm : M p with
    | none => rfl
    | some z =>
      have := World.block_lt_of_cell? w p (hh.mem p z hm).1
      omega
  obtain ⟨h5, h6⟩ := heap_frz hp1 (i := hp.length) (v := v) (e := e) (sz := sz) (n := n) (ts := cs) (by simp)
  have h7 := h5.take hp.length
  rw [List.take_set_of_le (Nat.le_refl _), List.take_left] at h7
  simp only [RA] at hru
  rw [hru.1]
  refine ⟨v, rfl, _, _, hp, h, ⟨frB_sub _ _ _, fun p z hz => ?_⟩, h7, by simp only [RA]; exact h6⟩
  cases hm : M p with
  | some z' =>
    have := frB_sub M v.ownBlock w' p z' hm
    rw [hz] at this
    exact .inl (by rw [← this])
  | none =>
    obtain ⟨hg, _⟩ := frB_new hz hm
    exact .inr (hp1.out hp.length (.row v e sz n cs) p.block (by simp) hg).1
/-- an append where the other blocks are not written out -/
theorem zApS {t el : TypeId} {ti te : TI} {x y : Operand} {i n m sz : Nat} {v : Value} {cs ts : List T} (h : ∀ v', K (.own i v') (hp.set i (.row v' el sz (n + m) (cs ++ ts)))) (hL : TabOk P L := by exact tok) (hx : ρ x = .own i v := by exact rfl) (hi : hp[i]? = some (.row v el sz n cs) := by exact rfl) (hy : ρ y = .c (.row m sz ts) := by exact rfl) (ht : L.look t = some ti := by exact rfl) (hd : ti.d = .slice el := by exact rfl) (hte : L.look el = some te := by exact rfl) (hsz : te.size = sz := by exact rfl)
    (h63 : n + m ≤ maxLen := by first | (simp only [maxLen]; omega) | (simp only [maxLen]; dsimp only at *; omega)) (hbytes : (n + m) * te.bytes ≤ 140737488355328 := by first | (simp only []; omega) | (dsimp only at *; omega)) : LO P F ⟨d, .call { callee := .builtin .append, args := #[x, y], argTypes := #[t, t] }, ty, pos, aft, g⟩ ρ hp K := lo_app hL hx hi hy ht hd hte hsz h63 hbytes h
theorem ra_c {M : Mm} {t : T} {u : Value} (h : RA M (.c t) u) : RT M t u := by simpa only [RA] using h
theorem ra_o {M : Mm} {j : Nat} {v u : Value} (h : RA M (.own j v) u) : RT M (.lit v) u := by simp only [RA, RT] at h ⊢; exact h.1
theorem ra_p {M : Mm} {j b off : Nat} {u : Value} (h : RA M (.ptr j b off) u) : RT M (.lit (.pointer (some ⟨b, off, none⟩))) u := by simp only [RA, RT] at h ⊢; exact h
/-- an update where the other blocks are not written out -/
theorem zUpiS (kT eT : TypeId) {xT : TypeId} {x y z : Operand} {i b : Nat} {s : Int} {l l' : List (Int × T)} {t : T} (hm : mput s t l = l') (h : K (.c (.lit undef)) (hp.set i (.mp b (mkeys (Value.int .i64) l')))) (hu : isMap P xT = some (kT, eT) := by kernel_rfl) (hk : P.underlying kT = some (.int .i64) := by kernel_rfl) (hx : ρ x = .own i (.map (some b)) := by exact rfl) (hi : hp[i]? = some (.mp b (mkeys (Value.int .i64) l)) := by exact rfl) (hy : ρ y = .c (.lit (.int .i64 s)) := by exact rfl) (hz : ∀ M u, RA M (ρ z) u → RT M t u := by first | exact fun _ _ h => ra_c h | exact fun _ _ h => ra_o h | exact fun _ _ h => ra_p h) :
    LO P F ⟨d, .mapUpdate xT x y z, ty, pos, aft, g⟩ ρ hp K := lo_mapUpdate (keyInt .i64) (isMap_eq hu) hk hx hi hy hz (.inl rfl) (by rw [hm]; exact h)
end
theorem wk_frzqS {F : Frm} {τ : Nat → AV} {hp : List Blk} {N : Nat} (s : Nat) (ts : List T) {i j b off : Nat} {t : TypeId} {cs : List AV} (hs : τ s = .ptr j b off) (hi : hp[i]? = some (.box b t cs)) (hz : Rzs [] cs ts) (hN : Nat.blt s N = true) : Wk F ⟨τ, hp, N⟩ ⟨upd N s (.c (.pin ts off)) τ, hp.set i .dead, N⟩ := by
  intro M a w hr
  have h1 := heap_frzG hr.heap hi
  obtain ⟨xs, hh, hx, hone⟩ := hr.heap.at_ i _ hi
  have h2 : RT (frB M (Blk.box b t cs).blk w) (.pin ts off) (.pointer (some ⟨b, off, none⟩)) := by
    simp only [RT]
    refine ⟨⟨b, 0, none⟩, xs, by unfold Addr.add; split <;> simp_all, fun j x hj => ?_, RTs.mono (frB_sub _ _ _) _ _ (cls_sound cs ts xs hz hx)⟩
    have hadd : (⟨b, 0, none⟩ : Addr).add j = ⟨b, j, none⟩ := by unfold Addr.add; split <;> simp_all
    rw [hadd]
    have hn : M ⟨b, j, none⟩ = none := (hr.heap.out i _ b hi rfl).2 _ rfl
    have hc : w.cell? ⟨b, j, none⟩ = some x := by rw [cell_of_row _ b j _ _ _ hh]; simpa using hj
    simp [frB, hn, Blk.blk, hc, hone x (List.mem_of_getElem? hj)]
  refine ⟨_, fun k => ?_, hr.size, hr.defers, h1⟩
  simp only [upd]
  cases hc : Nat.beq k s with
  | false => simp only [Bool.false_and, cond_false]; exact RA.mono (frB_sub _ _ _) _ _ (hr.tmps k)
  | true =>
    have := Nat.eq_of_beq_eq_true hc
    subst this
    have h3 : RA M (τ k) (a.tmps.getD k undef) := hr.tmps k
    rw [hs] at h3
    simp only [RA] at h3
    rw [hN]
    simp only [Bool.and_self, cond_true, RA]
    rw [h3]; exact h2
/-- a variable at the head of the blocks becomes closed memory -/
theorem x_frz0 {F : Frm} {P : Program} {Q : Exit → AS → Prop} {c : Go.Code} {τ : Nat → AV} {hp : List Blk} {N : Nat} (s : Nat) (ts : List T) {i b off : Nat} {t : TypeId} {cs : List AV} (h : AC P F c Q ⟨upd N s (.c (.pin ts off)) τ, hp, N⟩) (hs : τ s = .ptr i b off := by exact rfl) (hz : Rzs [] cs ts := by repeat (first | exact rzs_nil | apply rzs_cons | exact rz_c | exact rz_nil rfl | apply rz_agg | exact rz_own rfl | apply rz_fn | exact rz_ptr rfl | apply rz_tup)) (hN : Nat.blt s N = true := by exact rfl) : AC P F c Q ⟨τ, .box b t cs :: hp, N⟩ := by
  refine ac_wk (wk_frzqS (i := 0) s ts hs rfl hz hN) ?_
  show AC P F c Q ⟨_, .dead :: hp, N⟩
  refine x_perm (hp' := hp ++ [Blk.dead]) (List.perm_append_comm (l₁ := [Blk.dead])) ?_
  refine ac_wk (wk_drop hp.length) ?_
  rw [show (hp ++ [Blk.dead]).take hp.length = hp from List.take_left]
  exact h
theorem erase_perm {α : Type} : ∀ {l : List α} {i : Nat} (h : i < l.length), l.Perm (l[i] :: l.eraseIdx i)
  | [], _, h => absurd h (Nat.not_lt_zero _)
  | _ :: _, 0, _ => List.Perm.refl _
  | a :: l, i + 1, h => by
    simp only [List.getElem_cons_succ, List.eraseIdx_cons_succ]
    exact ((erase_perm (l := l) (i := i) (by simpa using h)).cons a).trans (List.Perm.swap _ _ _)
theorem fam_out {α : Type} {f : α → Blk} {l : List α} {i : Nat} {a : α} (h : l[i]? = some a) : (l.map f).Perm (f a :: (l.eraseIdx i).map f) := by
  obtain ⟨h1, rfl⟩ := List.getElem?_eq_some_iff.1 h
  exact (erase_perm h1).map f
theorem fam_at {α : Type} (f : α → Blk) {l : List α} {i : Nat} {a : α} (h : l[i]? = some a) : (l.map f)[i]? = some (f a) := by rw [List.getElem?_map, h]; rfl
end Go.Proofs.Ytdogdjcjmhogmaa
namespace Go.Proofs.Ytdogdjcjmhogmaa
open Go.RowKit
section
variable {P : Program} {F : Frm} {L : Tab} {d : Option Tmp} {ty : TypeId} {pos : String} {aft : Array Edge} {g : Option (Nat × Bool)} {ρ : Operand → AV} {hp : List Blk} {K : AV → List Blk → Prop} {te : TI} {x y : Operand} {i b : Nat} {o : Option (List Nat × Nat)} {xT : TypeId}
theorem zLkia (kT eT : TypeId) {s : Int} {l : List (Int × T)} {zs : List T} {t : T} {c : Bool} (ht : (mget s l).getD (.agg zs) = t) (hc : (mget s l).isSome = c) (h : K (.c (.tup [t, .lit (.bool c)])) hp) (hL : TabOk P L := by exact tok) (hu : isMap P xT = some (kT, eT) := by kernel_rfl) (hk : P.underlying kT = some (.int .i64) := by kernel_rfl) (hte : L.look eT = some te := by exact rfl) (hz : te.zero.map (fun v => T.lit v) = zs := by exact rfl) (ha : te.agg = true := by exact rfl) (hx : ρ x = .own i (.map (some b)) := by exact rfl) (hi : hp[i]? = some (.mpx b (mkeys (Value.int .i64) l) o) := by exact rfl) (hy : ρ y = .c (.lit (.int .i64 s)) := by exact rfl) :
    LO P F ⟨d, .lookup xT x y true, ty, pos, aft, g⟩ ρ hp K := lo_lookup_agg (keyInt .i64) hL (isMap_eq hu) hk hte ha hx hi hy (by rw [hz, ht, hc]; exact h)
theorem zLkin (kT eT : TypeId) {s : Int} {l : List (Int × T)} {zs : List T} {t : T} (ht : (mget s l).getD (.agg zs) = t) (h : K (.c t) hp) (hL : TabOk P L := by exact tok) (hu : isMap P xT = some (kT, eT) := by kernel_rfl) (hk : P.underlying kT = some (.int .i64) := by kernel_rfl) (hte : L.look eT = some te := by exact rfl) (hz : te.zero.map (fun v => T.lit v) = zs := by exact rfl) (ha : te.agg = true := by exact rfl) (hx : ρ x = .own i (.map (some b)) := by exact rfl) (hi : hp[i]? = some (.mpx b (mkeys (Value.int .i64) l) o) := by exact rfl) (hy : ρ y = .c (.lit (.int .i64 s)) := by exact rfl) :
    LO P F ⟨d, .lookup xT x y false, ty, pos, aft, g⟩ ρ hp K := lo_lookup_aggn (keyInt .i64) hL (isMap_eq hu) hk hte ha hx hi hy (by rw [hz, ht]; exact h)
/-- an entry is written, the map told anew -/
theorem zUpti (kT eT : TypeId) {z : Operand} {s : Int} {l l' : List (Int × T)} {t : T} {hp' : List Blk} (hl : mput s t l = l') (h : K (.c (.lit undef)) hp') (hu : isMap P xT = some (kT, eT) := by kernel_rfl) (hk : P.underlying kT = some (.int .i64) := by kernel_rfl) (hx : ρ x = .own i (.map (some b)) := by exact rfl) (hi : hp[i]? = some (.mp b (mkeys (Value.int .i64) l)) := by exact rfl) (hy : ρ y = .c (.lit (.int .i64 s)) := by exact rfl) (hz : Rzs [] [ρ z] [t] := by repeat (first | exact rzs_nil | apply rzs_cons | exact rz_c | exact rz_nil rfl | apply rz_agg | apply rz_fn | apply rz_tup)) (hf : evl (hp.set i (.mp b (mkeys (Value.int .i64) l'))) = some hp' := by exact rfl) :
    LO P F ⟨d, .mapUpdate xT x y z, ty, pos, aft, g⟩ ρ hp K := lo_mapUpdate (keyInt .i64) (isMap_eq hu) hk hx hi hy (fun M u h => by have := re_cls hz M u h; simpa only [RA] using this) (.inl rfl) (by rw [hl, ← evl_eq hf] at *; exact h)
/-- an entry is struck, the map told anew -/
theorem zDelti (kT eT : TypeId) {tk : TypeId} {s : Int} {l l' : List (Int × T)} {hp' : List Blk} (hl : mdel s l = l') (h : K (.c (.tup [])) hp') (hu : isMap P xT = some (kT, eT) := by kernel_rfl) (hk : P.underlying kT = some (.int .i64) := by kernel_rfl) (hx : ρ x = .own i (.map (some b)) := by exact rfl) (hi : hp[i]? = some (.mp b (mkeys (Value.int .i64) l)) := by exact rfl) (hy : ρ y = .c (.lit (.int .i64 s)) := by exact rfl) (hf : evl (hp.set i (.mp b (mkeys (Value.int .i64) l'))) = some hp' := by exact rfl) :
    LO P F ⟨d, .call { callee := .builtin .delete, args := #[x, y], argTypes := #[xT, tk] }, ty, pos, aft, g⟩ ρ hp K := zDeli kT eT (hp' := hp') (l := l) h hu hk hx hi hy (by rw [hl]; exact hf)
/-- an entry is struck, where the other blocks are not written out -/
theorem zDeliS (kT eT : TypeId) {tk : TypeId} {s : Int} {l l' : List (Int × T)} (hl : mdel s l = l') (h : K (.c (.tup [])) (hp.set i (.mp b (mkeys (Value.int .i64) l')))) (hu : isMap P xT = some (kT, eT) := by kernel_rfl) (hk : P.underlying kT = some (.int .i64) := by kernel_rfl) (hx : ρ x = .own i (.map (some b)) := by exact rfl) (hi : hp[i]? = some (.mp b (mkeys (Value.int .i64) l)) := by exact rfl) (hy : ρ y = .c (.lit (.int .i64 s)) := by exact rfl) :
    LO P F ⟨d, .call { callee := .builtin .delete, args := #[x, y], argTypes := #[xT, tk] }, ty, pos, aft, g⟩ ρ hp K := lo_mapDel (keyInt .i64) (isMap_eq hu) hk hx hi hy (by rw [hl]; exact h)
/-- a walk over a map, where the other blocks are not written out -/
theorem zRgS (kT eT : TypeId) {es : List (Value × T)} (h : ∀ b' st c, st.length = es.length → K (.ptr hp.length b' 0) (hp.set i (.mpx b es (some (st, c))) ++ [.it b' b st c []])) (hu : isMap P xT = some (kT, eT) := by kernel_rfl) (hx : ρ x = .own i (.map (some b)) := by exact rfl) (hi : hp[i]? = some (.mp b es) := by exact rfl) : LO P F ⟨d, .range xT x, ty, pos, aft, g⟩ ρ hp K :=
  lo_range (isMap_eq hu) hx hi h
end
section
variable {P : Program} {F : Frm} {Q : Exit → AS → Prop} {τ : Nat → AV} {hp : List Blk} {N : Nat}
theorem x_unitS {c : Go.Code} (i : Nat) {b : Nat} {es : List (Value × T)} {o : Option (List Nat × Nat)} (hq : AC P F c Q ⟨τ, hp.set i (.mp b es), N⟩) (hi : hp[i]? = some (.mpx b es o) := by exact rfl) : AC P F c Q ⟨τ, hp, N⟩ := ac_wk (wk_unit i hi) hq
end
section
variable {P : Program} {F : Frm} {Q : Exit → AS → Prop} {τ : Nat → AV} {N : Nat}
/-- the walk over the first block is over: the iterator behind it is let go -/
theorem x_over {c : Go.Code} {b : Nat} {es : List (Value × T)} {o : Option (List Nat × Nat)} {it : Blk} {l : List Blk} (h : AC P F c Q ⟨τ, .mp b es :: l, N⟩) : AC P F c Q ⟨τ, .mpx b es o :: it :: l, N⟩ := by
  refine x_unitS 0 ?_ rfl
  show AC P F c Q ⟨τ, .mp b es :: it :: l, N⟩
  refine x_perm (hp' := (.mp b es :: l) ++ [it]) ((List.perm_append_comm (l₂ := l) (l₁ := [it])).cons _) ?_
  refine ac_wk (wk_drop (Blk.mp b es :: l).length) ?_
  rw [show ((Blk.mp b es :: l) ++ [it]).take (Blk.mp b es :: l).length = Blk.mp b es :: l from List.take_left]
  exact h
end
def assoc {α β : Type} (κ : β → α) (v : β → T) (D : List β) : List (α × T) := D.map fun p => (κ p, v p)
section
variable {α β : Type} [DecidableEq α]
def posK (κ : β → α) (k : α) : List β → Option Nat
  | [] => none
  | p :: D => if k = κ p then some 0 else (posK κ k D).map (· + 1)
theorem posK_none {κ : β → α} {k : α} : ∀ {D : List β}, posK κ k D = none ↔ ∀ p ∈ D, k ≠ κ p
  | [] => by simp [posK]
  | p :: D => by
    rw [posK]
    by_cases h : k = κ p
    · simp [h]
    · simp [h, posK_none (D := D)]
theorem posK_some {κ : β → α} {k : α} : ∀ {D : List β} {j : Nat}, posK κ k D = some j → ∃ p, D[j]? = some p ∧ k = κ p
  | [], j, h => by simp [posK] at h
  | p :: D, j, h => by
    rw [posK] at h
    by_cases hk : k = κ p
    · rw [if_pos hk] at h
      cases h
      exact ⟨p, rfl, hk⟩
    · rw [if_neg hk] at h
      cases hp : posK κ k D with
      | none => rw [hp] at h; cases h
      | some i =>
        rw [hp] at h
        obtain ⟨q, h1, h2⟩ := posK_some hp
        cases h
        exact ⟨q, by simpa using h1, h2⟩
theorem posK_at {κ : β → α} : ∀ {D : List β} {j : Nat} {p : β}, (D.map κ).Nodup → D[j]? = some p → posK κ (κ p) D = some j
  | [], _, _, _, h => by simp at h
  | q :: D, 0, p, _, h => by
    obtain rfl : q = p := by simpa using h
    rw [posK, if_pos rfl]
  | q :: D, j + 1, p, hn, h => by
    have h' : D[j]? = some p := by simpa using h
    rw [List.map_cons] at hn
    obtain ⟨h1, h2⟩ := List.nodup_cons.1 hn
    have hne : κ p ≠ κ q := fun e => h1 (by rw [← e]; exact List.mem_map.2 ⟨p, List.mem_of_getElem? h', rfl⟩)
    rw [posK, if_neg hne, posK_at h2 h']; rfl
theorem get_pos (κ : β → α) (v : β → T) (k : α) : ∀ D : List β, mget k (assoc κ v D) = ((posK κ k D).bind fun j => D[j]?).map v
  | [] => rfl
  | p :: D => by
    show mget k ((κ p, v p) :: assoc κ v D) = _
    rw [mget, posK, get_pos κ v k D]
    by_cases h : k = κ p
    · simp [h]
    · simp only [if_neg h]
      cases posK κ k D <;> simp
theorem put_new {κ : β → α} {v : β → T} {k : α} (t : T) : ∀ {D : List β}, posK κ k D = none → mput k t (assoc κ v D) = assoc κ v D ++ [(k, t)]
  | [], _ => rfl
  | p :: D, h => by
    rw [posK] at h
    by_cases hk : k = κ p
    · rw [if_pos hk] at h; cases h
    · rw [if_neg hk] at h
      show mput k t ((κ p, v p) :: assoc κ v D) = _
      rw [mput, if_neg hk, put_new t (by cases hp : posK κ k D <;> simp_all)]
      rfl
theorem put_old {κ : β → α} {v : β → T} {k : α} (t : T) : ∀ {D : List β} {j : Nat}, posK κ k D = some j → mput k t (assoc κ v D) = (assoc κ v D).set j (k, t)
  | [], _, h => by simp [posK] at h
  | p :: D, j, h => by
    rw [posK] at h
    show mput k t ((κ p, v p) :: assoc κ v D) = ((κ p, v p) :: assoc κ v D).set j (k, t)
    by_cases hk : k = κ p
    · rw [if_pos hk] at h
      cases h
      rw [mput, if_pos hk]; rfl
    · rw [if_neg hk] at h
      cases hp : posK κ k D with
      | none => rw [hp] at h; cases h
      | some i =>
        rw [hp] at h
        cases h
        rw [mput, if_neg hk, put_old t hp]; rfl
theorem del_old {κ : β → α} {v : β → T} {k : α} : ∀ {D : List β} {j : Nat}, posK κ k D = some j → mdel k (assoc κ v D) = assoc κ v (D.eraseIdx j)
  | [], _, h => by simp [posK] at h
  | p :: D, j, h => by
    rw [posK] at h
    show mdel k ((κ p, v p) :: assoc κ v D) = _
    by_cases hk : k = κ p
    · rw [if_pos hk] at h
      cases h
      rw [mdel, if_pos hk]; rfl
    · rw [if_neg hk] at h
      cases hp : posK κ k D with
      | none => rw [hp] at h; cases h
      | some i =>
        rw [hp] at h
        cases h
        rw [mdel, if_neg hk, del_old hp]; rfl
end
section
variable {α β : Type}
theorem assoc_set (κ : β → α) (v : β → T) (D : List β) (j : Nat) (p : β) : (assoc κ v D).set j (κ p, v p) = assoc κ v (D.set j p) := by
  unfold assoc
  rw [List.map_set]
theorem assoc_app (κ : β → α) (v : β → T) (D : List β) (p : β) : assoc κ v D ++ [(κ p, v p)] = assoc κ v (D ++ [p]) := by simp [assoc]
theorem assoc_len (κ : β → α) (v : β → T) (D : List β) : (assoc κ v D).length = D.length := List.length_map _
end
end Go.Proofs.Ytdogdjcjmhogmaa
namespace Go.Proofs.Ytdogdjcjmhogmaa
/-- how long the first piece is, of at most f bytes -/
def cl : Nat → List UInt8 → Nat
  | 0, _ => 0
  | _, [] => 0
  | f + 1, c :: r => if c = 10 then 1 else cl f r + 1
theorem cl_le : ∀ f l, cl f l ≤ f ∧ cl f l ≤ l.length
  | 0, _ => by simp [cl]
  | _ + 1, [] => by simp [cl]
  | f + 1, c :: r => by
    have := cl_le f r
    simp only [cl, List.length_cons]
    split <;> omega
theorem cl_pos {f : Nat} {l : List UInt8} (hf : 0 < f) (hl : 0 < l.length) : 0 < cl f l := by
  match f, l, hf, hl with
  | f + 1, c :: r, _, _ => simp only [cl]; split <;> omega
theorem cl_hit : ∀ {f k : Nat} {l : List UInt8} (h : k < l.length), k < f → cl f l = k + cl (f - k) (l.drop k) → l[k] = 10 → cl f l = k + 1 := by
  intro f k l h hf he h10
  rw [he, List.drop_eq_getElem_cons h]
  obtain ⟨g, hg⟩ : ∃ g, f - k = g + 1 := ⟨f - k - 1, by omega⟩
  rw [hg]
  simp [cl, h10]
theorem cl_miss : ∀ {f k : Nat} {l : List UInt8} (h : k < l.length), k < f → cl f l = k + cl (f - k) (l.drop k) → l[k] ≠ 10 → cl f l = (k + 1) + cl (f - (k + 1)) (l.drop (k + 1)) := by
  intro f k l h hf he h10
  rw [he, List.drop_eq_getElem_cons h]
  obtain ⟨g, hg⟩ : ∃ g, f - k = g + 1 := ⟨f - k - 1, by omega⟩
  have hg' : f - (k + 1) = g := by omega
  rw [hg, hg']
  simp [cl, h10]; omega
theorem cl_end {f k : Nat} {l : List UInt8} (h : ¬ (k < l.length ∧ k < f)) (he : cl f l = k + cl (f - k) (l.drop k)) : cl f l = k := by
  rw [he]
  by_cases hk : k < f
  · have : l.drop k = [] := List.drop_eq_nil_of_le (by omega)
    rw [this]
    obtain ⟨g, hg⟩ : ∃ g, f - k = g + 1 := ⟨f - k - 1, by omega⟩
    rw [hg]; simp [cl]
  · have : f - k = 0 := by omega
    rw [this]; simp [cl]
/-- the pieces -/
def cutsF : Nat → List UInt8 → List (List UInt8)
  | 0, _ => []
  | f + 1, l => if l = [] then [] else l.take (cl 32 l) :: cutsF f (l.drop (cl 32 l))
theorem cutsF_nil : ∀ f, cutsF f [] = []
  | 0 => rfl
  | _ + 1 => by simp [cutsF]
theorem cutsF_step {f : Nat} {l : List UInt8} (h : 0 < l.length) (hf : l.length ≤ f) : cutsF f l = l.take (cl 32 l) :: cutsF (f - 1) (l.drop (cl 32 l)) := by
  obtain ⟨g, rfl⟩ : ∃ g, f = g + 1 := ⟨f - 1, by omega⟩
  have : l ≠ [] := by intro e; simp [e] at h
  simp [cutsF, this]
theorem cl_clean : ∀ {f : Nat} {cur rest : List UInt8}, (∀ x ∈ cur, x ≠ 10) → cur.length ≤ f → cl f (cur ++ rest) = cur.length + cl (f - cur.length) rest
  | f, [], rest, _, _ => by simp
  | 0, _ :: _, _, _, h => by simp at h
  | f + 1, x :: cur, rest, hx, h => by
    have h1 : x ≠ 10 := hx x (by simp)
    have h2 := cl_clean (f := f) (cur := cur) (rest := rest) (fun y hy => hx y (by simp [hy])) (by simpa using h)
    simp only [List.cons_append, cl, h1, if_false, List.length_cons, Nat.add_sub_add_right, h2]
    omega
theorem cl_full {cur rest : List UInt8} {c : UInt8} (h : ∀ x ∈ cur, x ≠ 10) (hl : cur.length ≤ 31) (hc : c = 10 ∨ cur.length = 31) : cl 32 (cur ++ c :: rest) = cur.length + 1 := by
  rw [cl_clean h (by omega)]
  obtain ⟨g, hg⟩ : ∃ g, 32 - cur.length = g + 1 := ⟨31 - cur.length, by omega⟩
  rw [hg]
  simp only [cl]
  rcases hc with rfl | h31
  · simp
  · obtain rfl : g = 0 := by omega
    simp [cl]
theorem cutsF_full {f : Nat} {cur rest : List UInt8} {c : UInt8} (h : ∀ x ∈ cur, x ≠ 10) (hl : cur.length ≤ 31) (hc : c = 10 ∨ cur.length = 31) (hf : (cur ++ c :: rest).length ≤ f) :
    cutsF f (cur ++ c :: rest) = (cur ++ [c]) :: cutsF (f - 1) rest := by
  rw [cutsF_step (by simp; omega) hf, cl_full h hl hc]
  congr 1
  · rw [show cur ++ c :: rest = (cur ++ [c]) ++ rest by simp, show cur.length + 1 = (cur ++ [c]).length by simp, List.take_left]
  · congr 1
    rw [show cur ++ c :: rest = (cur ++ [c]) ++ rest by simp, show cur.length + 1 = (cur ++ [c]).length by simp, List.drop_left]
theorem cutsF_last {f : Nat} {cur : List UInt8} (h : ∀ x ∈ cur, x ≠ 10) (hl : cur.length ≤ 31) (h0 : cur ≠ []) (hf : cur.length ≤ f) : cutsF f cur = [cur] := by
  have hpos : 0 < cur.length := List.length_pos_iff.2 h0
  have hcl : cl 32 cur = cur.length := by
    have := cl_clean (f := 32) (cur := cur) (rest := []) h (by omega)
    rw [List.append_nil] at this
    rw [this]
    obtain ⟨g, hg⟩ : ∃ g, 32 - cur.length = g + 1 := ⟨31 - cur.length, by omega⟩
    rw [hg]; simp [cl]
  rw [cutsF_step hpos hf, hcl]
  simp [cutsF_nil]
end Go.Proofs.Ytdogdjcjmhogmaa
