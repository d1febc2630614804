/-
  Texts of this proof, part 6: Ab43 Tab Tv Tsm Ty Tex NamePlain.
-/
import Derived.Test.YtnkafjkcjpajgaaQSolveBest5
import Derived.Laws.IdiomRangeMap
import Derived.Lib.MinMax
import Derived.Test.YtnkafjkcjpajgaaProg
namespace Go.Proofs.Ytnkafjkcjpajgaa
open Go.RowKit
theorem leftOf_mem {l : List MapEntry} {seen : Array Nat} {e : MapEntry} (h : e ∈ (leftOf l.toArray seen).toList) : e ∈ l ∧ e.born ∉ seen.toList := by
  have h1 := mem_left h
  refine ⟨by simpa using h1.1, ?_⟩
  have := h1.2
  rw [Array.contains_eq_mem, decide_eq_false_iff_not] at this
  simpa using this
theorem leftOf_none {l : List MapEntry} {seen : Array Nat} (h : (leftOf l.toArray seen).size = 0) : ∀ e ∈ l, e.born ∈ seen.toList := by
  intro e he
  have h1 : leftOf l.toArray seen = #[] := Array.eq_empty_of_size_eq_zero h
  unfold leftOf at h1
  rw [Array.filter_eq_empty_iff] at h1
  have := h1 e (by simpa using he)
  simpa using this
theorem nodup_map_inj {α β : Type} {f : α → β} : ∀ {l : List α} (_ : (l.map f).Nodup) {i j : Nat} (hi : i < l.length) (hj : j < l.length), f l[i] = f l[j] → i = j := by
  intro l h i j hi hj he
  have hp : (l.map f).Pairwise (· ≠ ·) := h
  have hg := List.pairwise_iff_getElem.1 hp
  rcases Nat.lt_trichotomy i j with hl | hl | hl
  · exact absurd (by rw [List.getElem_map, List.getElem_map]; exact he) (hg i j (by simpa using hi) (by simpa using hj) hl)
  · exact hl
  · exact absurd (by rw [List.getElem_map, List.getElem_map]; exact he.symm) (hg j i (by simpa using hj) (by simpa using hi) hl)
theorem map_erase {α β : Type} (f : α → β) : ∀ (l : List α) (j : Nat), (l.eraseIdx j).map f = (l.map f).eraseIdx j
  | [], j => by simp
  | a :: l, 0 => by simp
  | a :: l, j + 1 => by simp [map_erase f l j]
def mdel {α : Type} [DecidableEq α] (k : α) : List (α × T) → List (α × T)
  | [] => []
  | (k', t) :: l => if k = k' then l else (k', t) :: mdel k l
theorem find_del {α : Type} [DecidableEq α] {dk : TypeDesc} {κ : α → Value} (hκ : KeyIs dk κ) (k : α) : ∀ (l : List (α × T)) (es : List MapEntry) (i : Nat), es.map (·.key) = l.map (fun p => κ p.1) →
    (Instr.findNow dk (κ k) es i = some none ∧ mdel k l = l) ∨
    ∃ j e, Instr.findNow dk (κ k) es i = some (some (i + j, e.val)) ∧ es[j]? = some e ∧ mdel k l = l.eraseIdx j
  | [], es, i, h => by
    obtain rfl : es = [] := by simpa using h
    exact .inl ⟨rfl, rfl⟩
  | (k', t') :: l, [], i, h => by simp at h
  | (k', t') :: l, e :: es, i, h => by
    simp only [List.map_cons, List.cons.injEq] at h
    obtain ⟨r, hr, hiff⟩ := MapKept.sameNow_of_keys (hκ.is k) (by rw [h.1]; exact hκ.is k' : MapKept.IsKey dk e.key)
    rw [h.1] at hiff
    by_cases hk : k = k'
    · subst hk
      obtain rfl : r = true := hiff.2 rfl
      exact .inr ⟨0, e, by simp [Instr.findNow, hr], rfl, by simp [mdel]⟩
    · have hrf : r = false := by
        cases r with
        | false => rfl
        | true => exact absurd (hκ.inj _ _ (hiff.1 rfl)) hk
      subst hrf
      rcases find_del hκ k l es (i + 1) h.2 with ⟨h1, h2⟩ | ⟨j, e', h1, h2, h3⟩
      · exact .inl ⟨by simp [Instr.findNow, hr, h1], by simp [mdel, hk, h2]⟩
      · exact .inr ⟨j + 1, e', by simp [Instr.findNow, hr, h1]; omega, by simpa using h2, by simp [mdel, hk, h3]⟩
theorem RTs.erase {M : Mm} : ∀ {ts : List T} {xs : List Value} (j : Nat), RTs M ts xs → RTs M (ts.eraseIdx j) (xs.eraseIdx j)
  | [], _, j, h => by simp only [RTs] at h; subst h; simp [RTs]
  | t :: ts, _, 0, h => by
    simp only [RTs] at h
    obtain ⟨x, r, rfl, h1, h2⟩ := h
    simpa using h2
  | t :: ts, _, j + 1, h => by
    simp only [RTs] at h
    obtain ⟨x, r, rfl, h1, h2⟩ := h
    simp only [List.eraseIdx_cons_succ, RTs]
    exact ⟨x, _, rfl, h1, RTs.erase j h2⟩
section
variable {P : Program} {F : Frm} {d : Option Tmp} {ty : TypeId} {pos : String} {aft : Array Edge} {g : Option (Nat × Bool)} {ρ : Operand → AV} {hp : List Blk} {K : AV → List Blk → Prop}
theorem lo_range {xT kT eT : TypeId} {x : Operand} {i b : Nat} {es : List (Value × T)} (hu : P.underlying xT = some (.map kT eT)) (hx : ρ x = .own i (.map (some b))) (hi : hp[i]? = some (.mp b es))
    (h : ∀ b' st c, st.length = es.length → K (.ptr hp.length b' 0) (hp.set i (.mpx b es (some (st, c))) ++ [.it b' b st c []])) : LO P F ⟨d, .range xT x, ty, pos, aft, g⟩ ρ hp K := by
  refine ⟨fun M e w he hh => ?_⟩
  have h1 := he x (by first | (simp [Op.operands]; done) | simp [Op.operands, Call.operands])
  rw [hx] at h1
  simp only [RA] at h1
  obtain ⟨es', clock, hb, hkeys, hvals, hstm, hst⟩ := hh.at_ i _ hi
  have hlen : es'.length = es.length := by simpa using congrArg List.length hkeys
  have hrun := run_range_map (P := P) w xT kT eT b es'.toArray clock hu hb
  have hil : i < hp.length := (List.getElem?_eq_some_iff.1 hi).1
  have hh2 : HeapOk F M (hp.set i (.mpx b es (some (es'.map (·.born), clock)))) w := by
    have hg : ∀ (j : Nat) (x : Blk), (hp.set i (.mpx b es (some (es'.map (·.born), clock))))[j]? = some x → ∃ y, hp[j]? = some y ∧ x.blk = y.blk ∧ BlkOk M w x := by
      intro j x hj
      by_cases hij : i = j
      · subst hij
        rw [List.getElem?_set_self hil] at hj
        obtain rfl : _ = x := by injection hj
        exact ⟨_, hi, rfl, ⟨es', clock, hb, hkeys, hvals, hstm, fun s hs => by simpa using hs.symm⟩⟩
      · rw [List.getElem?_set_ne hij] at hj
        exact ⟨x, hj, rfl, hh.at_ j x hj⟩
    refine ⟨hh.mem, hh.ext, hh.frm, fun j x hj => (hg j x hj).choose_spec.2.2, fun j k x y q hj hk hx hy => ?_, fun j x q hj hq => ?_⟩
    · obtain ⟨x', h3, h4, -⟩ := hg j x hj
      obtain ⟨y', h5, h6, -⟩ := hg k y hk
      exact hh.sep j k x' y' q h3 h5 (by rw [← h4]; exact hx) (by rw [← h6]; exact hy)
    · obtain ⟨x', h3, h4, -⟩ := hg j x hj
      exact hh.out j x' q h3 (by rw [← h4]; exact hq)
  have hrun2 : (execOp e ⟨d, .range xT x, ty, pos, aft, g⟩).run P w = .ok (.value (.pointer (some ⟨w.heap.size, 0, none⟩))) (w.alloc (.mapIter (some b) clock #[] clock)) := by
    simp [execOp, h1.1, hrun]
  rw [hrun2]
  have hk := h w.heap.size (es'.map (·.born)) clock (by simpa using hlen)
  refine ⟨M, _, _, hk, Ext.refl _ _, ?_, by simp only [RA]⟩
  have hl2 : (hp.set i (.mpx b es (some (es'.map (·.born), clock)))).length = hp.length := List.length_set
  refine hh2.step hp.length rfl rfl rfl (by simp) (fun b hb _ => Below.heap_alloc _ _ _ hb) (Ext.refl _ _) (fun p v h1 h2 => by rw [h2] at h1; cases h1) (fun j hj => ?_) (fun x' hx' => ?_)
  · rcases Nat.lt_or_ge j hp.length with h | h
    · rw [List.getElem?_append_left (by rw [hl2]; exact h)]
    · rw [List.getElem?_eq_none (by rw [List.length_append, hl2]; simp only [List.length_cons, List.length_nil]; omega), List.getElem?_eq_none (by rw [hl2]; omega)]
  · rw [List.getElem?_append_right (by rw [hl2]; exact Nat.le_refl _), hl2] at hx'
    obtain rfl : _ = x' := by simpa using hx'
    refine ⟨⟨heap_alloc_new w _, fun p hp => by cases hp⟩, fun q hq => .inr ?_⟩
    obtain rfl : w.heap.size = q := by simpa [Blk.blk] using hq
    refine ⟨Nat.le_refl _, fun p hp => ?_⟩
    cases hc : M p with
    | none => rfl
    | some v => have := World.block_lt_of_cell? w p (hh.mem p v hc).1; omega
theorem lo_next {x : Operand} {i j b b' c : Nat} {es : List (Value × T)} {st P' : List Nat} (hx : ρ x = .ptr i b' 0) (hi : hp[i]? = some (.it b' b st c P')) (hj : hp[j]? = some (.mpx b es (some (st, c))))
    (hdone : (∀ k, k < es.length → k ∈ P') → K (.c (.tup [.lit (.bool false)])) hp)
    (hmore : ∀ (k : Nat) (u : Value) (t : T), es[k]? = some (u, t) → k ∉ P' → K (.c (.tup [.lit (.bool true), .lit u, t])) (hp.set i (.it b' b st c (P' ++ [k])))) : LO P F ⟨d, .next x false, ty, pos, aft, g⟩ ρ hp K := by
  refine ⟨fun M e w he hh => ?_⟩
  have h1 := he x (by first | (simp [Op.operands]; done) | simp [Op.operands, Call.operands])
  rw [hx] at h1
  simp only [RA] at h1
  obtain ⟨es', clock, hb, hkeys, hvals, hstm, hst⟩ := hh.at_ j _ hj
  obtain ⟨hst1, rfl⟩ : st = es'.map (·.born) ∧ c = clock := by
    have := hst (st, c) rfl
    exact ⟨congrArg Prod.fst this, congrArg Prod.snd this⟩
  obtain ⟨hit, hPl⟩ : w.heap[b']? = some (.mapIter (some b) c (P'.map fun p => st.getD p 0).toArray c) ∧ ∀ p ∈ P', p < st.length := hh.at_ i _ hi
  have hlen : es'.length = es.length := by simpa using congrArg List.length hkeys
  have hil : i < hp.length := (List.getElem?_eq_some_iff.1 hi).1
  have hbl : b' < w.heap.size := (Array.getElem?_eq_some_iff.1 hit).1
  -- the step, told of any world
  have key : ((∀ e ∈ es', e.born ∈ (P'.map fun p => st.getD p 0)) ∧ (Instr.next (.pointer (some ⟨b', 0, none⟩)) false ty).run P w = .ok (.tuple #[.bool false]) w) ∨
      ∃ e ∈ es', e.born ∉ (P'.map fun p => st.getD p 0) ∧ ∃ n : Nat, (Instr.next (.pointer (some ⟨b', 0, none⟩)) false ty).run P w = .ok (.tuple #[.bool true, e.key, e.val]) { w with drawn := w.drawn + n, heap := w.heap.setIfInBounds b' (.mapIter (some b) c ((P'.map fun p => st.getD p 0) ++ [e.born]).toArray c) } := by
    have hold : ∀ x ∈ es', x.born < c := hstm.2
    generalize (P'.map fun p => st.getD p 0) = seenl at hit ⊢
    have hget : (getObj b' : Sem Obj).run P w = .ok (.mapIter (some b) c seenl.toArray c) w := by simp only [getObj, Sem.run, hit]
    have htest : (!seenl.toArray.isEmpty && !es'.toArray.isEmpty && es'.toArray.all (fun x => decide (x.born ≥ c))) = false := next_test_false seenl.toArray es'.toArray c c (fun x hx => hold x (by simpa using hx)) (Nat.le_refl _)
    have hLm : ∀ x ∈ (leftOf es'.toArray seenl.toArray).toList, x ∈ es' ∧ x.born ∉ seenl := fun x hx => by
      have := leftOf_mem hx
      simpa using this
    have hL0 : (leftOf es'.toArray seenl.toArray).size = 0 → ∀ e ∈ es', e.born ∈ seenl := fun h => by
      have := leftOf_none h
      simpa using this
    have hlf : leftOf es'.toArray seenl.toArray = Array.filter (fun e => !seenl.toArray.contains e.born) es'.toArray := rfl
    simp only [Instr.next, Sem.run_bind, hget, MapKept.run_getObj_map hb, Result.andThen, htest, Bool.false_eq_true, if_false]
    rw [← hlf]
    generalize leftOf es'.toArray seenl.toArray = L at hLm hL0 ⊢
    have e1 : L.filter (fun x => decide (x.born < c)) = L := Array.filter_eq_self.2 (fun x hx => by simpa using hold x (hLm x (by simpa using hx)).1)
    have e2 : L.filter (fun x => decide (x.born ≥ c)) = #[] := by
      rw [Array.filter_eq_empty_iff]
      intro x hx
      have := hold x (hLm x (by simpa using hx)).1
      simp
      omega
    simp only [e1, e2, Array.append_empty]
    by_cases h0 : L.size = 0
    · left
      have : L = #[] := Array.eq_empty_of_size_eq_zero h0
      refine ⟨hL0 h0, ?_⟩
      subst this
      simp [choose, Sem.run, Question.forced]
    · right
      have hne : L.isEmpty = false := by simp [Array.isEmpty, h0]
      simp only [hne, Bool.false_eq_true, if_false, Array.empty_append, Array.size_map]
      have hch : ∃ (q n : Nat), q < L.size ∧ (choose (Question.mapNext L.size)).run P w = .ok q { w with drawn := w.drawn + n } := by
        by_cases hf : L.size ≤ 1
        · exact ⟨0, 0, by omega, by simp [choose, Sem.run, Question.forced, hf]⟩
        · exact ⟨_, 1, Nat.mod_lt _ (by omega), by
            simp only [choose, Sem.run, Question.forced, decide_eq_true_eq, hf, if_false, Question.cut]
            rfl⟩
      obtain ⟨q, n, hq, hrun⟩ := hch
      have hmem := hLm L[q] (by simp)
      refine ⟨L[q], hmem.1, hmem.2, n, ?_⟩
      have hset : ∀ o' : Obj, (setObj b' o').run P { w with drawn := w.drawn + n } = .ok () { w with drawn := w.drawn + n, heap := w.heap.setIfInBounds b' o' } := fun o' => by
        simp only [setObj, Sem.run, hit]
      simp only [hrun, Array.getElem?_map, Array.getElem?_eq_getElem hq, Option.map_some, Sem.run_bind, hset, Result.andThen]
      simp
  rcases key with ⟨hall, hrun⟩ | ⟨e0, hm, hn, n, hrun⟩
  · have hrun2 : (execOp e ⟨d, .next x false, ty, pos, aft, g⟩).run P w = .ok (.value (.tuple #[.bool false])) w := by
      simp [execOp, h1, hrun]
    rw [hrun2]
    refine ⟨M, _, _, hdone (fun k hk => ?_), Ext.refl _ _, hh, by simp only [RA, RT, RTs]; exact ⟨[.bool false], rfl, _, _, rfl, rfl, rfl⟩⟩
    have hk' : k < es'.length := by omega
    have := hall es'[k] (List.getElem_mem hk')
    obtain ⟨p, hp, hpe⟩ := List.mem_map.1 this
    have hpl := hPl p hp
    rw [hst1, List.length_map] at hpl
    rw [hst1, List.getD_eq_getElem?_getD, List.getElem?_map, List.getElem?_eq_getElem hpl] at hpe
    have : p = k := nodup_map_inj hstm.1 hpl hk' hpe
    rw [← this]; exact hp
  · obtain ⟨k, hk, rfl⟩ := List.getElem_of_mem hm
    have hk2 : k < es.length := by omega
    have hkey : es'[k].key = es[k].1 := by
      have := congrArg (fun l => l[k]?) hkeys
      simpa [List.getElem?_map, List.getElem?_eq_getElem hk, List.getElem?_eq_getElem hk2] using this
    have hkP : k ∉ P' := fun h => hn (List.mem_map.2 ⟨k, h, by rw [hst1, List.getD_eq_getElem?_getD, List.getElem?_map, List.getElem?_eq_getElem hk]; rfl⟩)
    obtain ⟨u, hu1, hu2⟩ := hvals.get (j := k) (t := es[k].2) (by rw [List.getElem?_map, List.getElem?_eq_getElem hk2]; rfl)
    rw [List.getElem?_map, List.getElem?_eq_getElem hk] at hu1
    obtain rfl : es'[k].val = u := by simpa using hu1
    have hrun2 : (execOp e ⟨d, .next x false, ty, pos, aft, g⟩).run P w = .ok (.value (.tuple #[.bool true, es'[k].key, es'[k].val])) { w with drawn := w.drawn + n, heap := w.heap.setIfInBounds b' (.mapIter (some b) c ((P'.map fun p => st.getD p 0) ++ [es'[k].born]).toArray c) } := by
      simp [execOp, h1, hrun]
    rw [hrun2]
    refine ⟨M, _, _, hmore k es[k].1 es[k].2 (List.getElem?_eq_getElem hk2) hkP, Ext.refl _ _, ?_, by simp only [RA, RT, RTs]; exact ⟨[.bool true, es'[k].key, es'[k].val], rfl, _, _, rfl, rfl, _, _, rfl, hkey, _, _, rfl, hu2, rfl⟩⟩
    refine hh.step i rfl rfl rfl (by simp) (fun q hq hne => ?_) (Ext.refl _ _) (fun p v h1 h2 => by rw [h2] at h1; cases h1) (fun q hq => by rw [List.getElem?_set_ne (Ne.symm hq)]) (fun x' hx' => ?_)
    · have : q ≠ b' := fun e => hne _ hi (by rw [e]; rfl)
      simp [Array.getElem?_setIfInBounds, Ne.symm this]
    · rw [List.getElem?_set_self hil] at hx'
      obtain rfl : _ = x' := by injection hx'
      refine ⟨⟨?_, fun p hp => ?_⟩, fun q hq => .inl ⟨_, hi, hq⟩⟩
      · have : (P' ++ [k]).map (fun p => st.getD p 0) = (P'.map fun p => st.getD p 0) ++ [es'[k].born] := by
          rw [List.map_append, hst1]
          simp [List.getD_eq_getElem?_getD, List.getElem?_map, List.getElem?_eq_getElem hk]
        rw [this]
        simp [Array.getElem?_setIfInBounds, hbl]
      · rcases List.mem_append.1 hp with hp | hp
        · exact hPl p hp
        · rw [List.mem_singleton.1 hp, hst1, List.length_map]; exact hk
/-- an entry is taken out -/
theorem lo_mapDel {α : Type} [DecidableEq α] {κ : α → Value} {dk : TypeDesc} {t tk kT eT : TypeId} {x y : Operand} {i b : Nat} {l : List (α × T)} {k : α} (hκ : KeyIs dk κ) (hu : P.underlying t = some (.map kT eT)) (hk : P.underlying kT = some dk) (hx : ρ x = .own i (.map (some b))) (hi : hp[i]? = some (.mp b (mkeys κ l))) (hy : ρ y = .c (.lit (κ k)))
    (h : K (.c (.tup [])) (hp.set i (.mp b (mkeys κ (mdel k l))))) : LO P F ⟨d, .call { callee := .builtin .delete, args := #[x, y], argTypes := #[t, tk] }, ty, pos, aft, g⟩ ρ hp K := by
  refine ⟨fun M e w he hh => ?_⟩
  have h1 := he x (by first | (simp [Op.operands]; done) | simp [Op.operands, Call.operands])
  rw [hx] at h1
  simp only [RA] at h1
  have h2 := he y (by first | (simp [Op.operands]; done) | simp [Op.operands, Call.operands])
  rw [hy] at h2
  simp only [RA, RT] at h2
  obtain ⟨es, clock, hb, hkeys, hvals, hstm, hst⟩ := hh.at_ i _ hi
  have hkeys' : es.map (·.key) = l.map (fun p => κ p.1) := by rw [hkeys]; simp [mkeys]
  have hvals' : RTs M (l.map (·.2)) (es.map (·.val)) := by simpa [mkeys, Function.comp_def] using hvals
  have hlt : b < w.heap.size := (Array.getElem?_eq_some_iff.1 hb).1
  have hil : i < hp.length := (List.getElem?_eq_some_iff.1 hi).1
  obtain ⟨es', hrun, hke, hva, hsm⟩ : ∃ es' : List MapEntry, (execOp e ⟨d, .call { callee := .builtin .delete, args := #[x, y], argTypes := #[t, tk] }, ty, pos, aft, g⟩).run P w = .ok (.value (.tuple #[])) { w with heap := w.heap.setIfInBounds b (.map es'.toArray clock) } ∧ es'.map (·.key) = (mkeys κ (mdel k l)).map (·.1) ∧ RTs M ((mkeys κ (mdel k l)).map (·.2)) (es'.map (·.val)) ∧ Stm es' clock := by
    rcases find_del hκ k l es 0 hkeys' with ⟨f1, f2⟩ | ⟨j, e', f1, f2, f3⟩
    · refine ⟨es, ?_, ?_, ?_, hstm⟩
      · simp [execOp, resolve, invoke, builtin, Builtin.delete_, h1.1, h2, run_underlying hu, MapKept.run_getObj_map hb, MapKept.run_checkKey hk (hκ.is k), MapKept.run_findKey hk f1, MapKept.run_setObj_map _ hb]
      · rw [f2, hkeys]
      · rw [f2]; exact hvals
    · refine ⟨es.eraseIdx j, ?_, ?_, ?_, ⟨?_, ?_⟩⟩
      · simp [execOp, resolve, invoke, builtin, Builtin.delete_, h1.1, h2, run_underlying hu, MapKept.run_getObj_map hb, MapKept.run_checkKey hk (hκ.is k), MapKept.run_findKey hk f1, MapKept.run_setObj_map _ hb]
      · rw [f3]
        simp only [mkeys, List.map_map]
        rw [map_erase, map_erase, hkeys']
        rfl
      · rw [f3]
        simp only [mkeys, List.map_map]
        rw [map_erase, map_erase]
        exact RTs.erase j (by simpa [Function.comp_def] using hvals')
      · rw [map_erase]
        exact hstm.1.sublist (List.eraseIdx_sublist _ _)
      · intro q hq
        exact hstm.2 q (List.eraseIdx_sublist _ _ |>.subset hq)
  rw [hrun]
  refine ⟨M, _, _, h, Ext.refl _ _, ?_, by simp only [RA, RT, RTs]; exact ⟨[], rfl, rfl⟩⟩
  refine hh.step i rfl rfl rfl (by simp) (fun c hc hne => ?_) (Ext.refl _ _) (fun p v h1 h2 => by rw [h2] at h1; cases h1) (fun j hj => by rw [List.getElem?_set_ne (Ne.symm hj)]) (fun x' hx' => ?_)
  · have : c ≠ b := fun e => hne _ hi (by rw [e]; rfl)
    simp [Array.getElem?_setIfInBounds, Ne.symm this]
  · rw [List.getElem?_set_self hil] at hx'
    obtain rfl : Blk.mp b (mkeys κ (mdel k l)) = x' := by injection hx'
    exact ⟨⟨es', clock, by simp [Array.getElem?_setIfInBounds, hlt], hke, hva, hsm, fun s hs => by cases hs⟩, fun b' hb' => .inl ⟨_, hi, hb'⟩⟩
end
section
variable {P : Program} {F : Frm} {d : Option Tmp} {ty : TypeId} {pos : String} {aft : Array Edge} {g : Option (Nat × Bool)} {ρ : Operand → AV} {hp : List Blk} {K : AV → List Blk → Prop}
theorem zRg (kT eT : TypeId) {xT : TypeId} {x : Operand} {i b n : Nat} {es : List (Value × T)} {hp' : Nat → List Nat → Nat → List Blk} (h : ∀ b' st c, st.length = es.length → K (.ptr n b' 0) (hp' b' st c)) (hu : isMap P xT = some (kT, eT) := by kernel_rfl) (hn : lenU hp = some n := by exact rfl) (hx : ρ x = .own i (.map (some b)) := by exact rfl) (hi : hp[i]? = some (.mp b es) := by exact rfl)
    (hf : ∀ b' st c, evl (hp.set i (.mpx b es (some (st, c))) ++ [.it b' b st c []]) = some (hp' b' st c) := by exact fun _ _ _ => rfl) : LO P F ⟨d, .range xT x, ty, pos, aft, g⟩ ρ hp K :=
  lo_range (isMap_eq hu) hx hi fun b' st c hl => by rw [← evl_eq (hf b' st c), ← lenU_eq hn]; exact h b' st c hl
theorem zNx {x : Operand} {i b b' c : Nat} {es : List (Value × T)} {st P' : List Nat} {hp' : Nat → List Blk} (j : Nat) (hdone : (∀ k, k < es.length → k ∈ P') → K (.c (.tup [.lit (.bool false)])) hp)
    (hmore : ∀ (k : Nat) (u : Value) (t : T), es[k]? = some (u, t) → k ∉ P' → K (.c (.tup [.lit (.bool true), .lit u, t])) (hp' k)) (hx : ρ x = .ptr i b' 0 := by exact rfl) (hi : hp[i]? = some (.it b' b st c P') := by exact rfl) (hj : hp[j]? = some (.mpx b es (some (st, c))) := by exact rfl)
    (hf : ∀ k, evl (hp.set i (.it b' b st c (P' ++ [k]))) = some (hp' k) := by exact fun _ => rfl) : LO P F ⟨d, .next x false, ty, pos, aft, g⟩ ρ hp K :=
  lo_next hx hi hj hdone fun k u t h1 h2 => by rw [← evl_eq (hf k)]; exact hmore k u t h1 h2
theorem zDels (kT eT : TypeId) {t tk : TypeId} {x y : Operand} {i b : Nat} {s : ByteArray} {l : List (ByteArray × T)} {hp' : List Blk} (h : K (.c (.tup [])) hp') (hu : isMap P t = some (kT, eT) := by kernel_rfl) (hk : P.underlying kT = some .string := by kernel_rfl) (hx : ρ x = .own i (.map (some b)) := by exact rfl) (hi : hp[i]? = some (.mp b (mkeys Value.string l)) := by exact rfl) (hy : ρ y = .c (.lit (.string s)) := by exact rfl) (hf : evl (hp.set i (.mp b (mkeys Value.string (mdel s l)))) = some hp' := by exact rfl) :
    LO P F ⟨d, .call { callee := .builtin .delete, args := #[x, y], argTypes := #[t, tk] }, ty, pos, aft, g⟩ ρ hp K := lo_mapDel keyStr (isMap_eq hu) hk hx hi hy (by rw [← evl_eq hf]; exact h)
end
theorem heap_unit {F : Frm} {M : Mm} {hp : List Blk} {w : World} {i b : Nat} {es : List (Value × T)} {o : Option (List Nat × Nat)} (h : HeapOk F M hp w) (hi : hp[i]? = some (.mpx b es o)) : HeapOk F M (hp.set i (.mp b es)) w := by
  have hil : i < hp.length := (List.getElem?_eq_some_iff.1 hi).1
  have hg : ∀ (j : Nat) (x : Blk), (hp.set i (.mp b es))[j]? = some x → ∃ y, hp[j]? = some y ∧ x.blk = y.blk ∧ BlkOk M w x := by
    intro j x hj
    by_cases hij : i = j
    · subst hij
      rw [List.getElem?_set_self hil] at hj
      obtain rfl : _ = x := by injection hj
      obtain ⟨l, clock, h1, h2, h3, h4, -⟩ := h.at_ i _ hi
      exact ⟨_, hi, rfl, ⟨l, clock, h1, h2, h3, h4, fun s hs => by cases hs⟩⟩
    · rw [List.getElem?_set_ne hij] at hj
      exact ⟨x, hj, rfl, h.at_ j x hj⟩
  refine ⟨h.mem, h.ext, h.frm, fun j x hj => (hg j x hj).choose_spec.2.2, fun j k x y q hj hk hx hy => ?_, fun j x q hj hq => ?_⟩
  · obtain ⟨x', h3, h4, -⟩ := hg j x hj
    obtain ⟨y', h5, h6, -⟩ := hg k y hk
    exact h.sep j k x' y' q h3 h5 (by rw [← h4]; exact hx) (by rw [← h6]; exact hy)
  · obtain ⟨x', h3, h4, -⟩ := hg j x hj
    exact h.out j x' q h3 (by rw [← h4]; exact hq)
section
variable {P : Program} {F : Frm} {τ : Nat → AV} {hp : List Blk} {N : Nat} {Q : Exit → AS → Prop}
theorem wk_unit (i : Nat) {b : Nat} {es : List (Value × T)} {o : Option (List Nat × Nat)} (hi : hp[i]? = some (.mpx b es o)) : Wk F ⟨τ, hp, N⟩ ⟨τ, hp.set i (.mp b es), N⟩ := by
  intro M a w hr
  exact ⟨M, hr.tmps, hr.size, hr.defers, heap_unit hr.heap hi⟩
theorem x_unit {c : Go.Code} (i : Nat) {b : Nat} {es : List (Value × T)} {o : Option (List Nat × Nat)} {hp' : List Blk} (hq : AC P F c Q ⟨τ, hp', N⟩) (hi : hp[i]? = some (.mpx b es o) := by exact rfl) (hf : evl (hp.set i (.mp b es)) = some hp' := by exact rfl) : AC P F c Q ⟨τ, hp, N⟩ := ac_wk (wk_unit i hi) (by rw [← evl_eq hf]; exact hq)
end
end Go.Proofs.Ytnkafjkcjpajgaa
namespace Go.Proofs.Ytnkafjkcjpajgaa
set_option maxRecDepth 100000 in
def tab : Tab :=
  (.node 139 ⟨2, 40, [.string ⟨#[]⟩, .slice none 0 0], (.struct [(0, 1), (1, 1)])⟩ (.node 70 ⟨1, 24, [.slice none 0 0], (.slice 73)⟩ (.node 36 ⟨1, 8, [.nilFunc], .other⟩ (.node 17 ⟨1, 8, [.pointer none], .other⟩ (.node 9 ⟨1, 16, [.string ⟨#[]⟩], .string⟩ (.node 5 ⟨1, 1, [.int .u8 0], (.int .u8)⟩ (.node 3 ⟨1, 8, [.int .i64 0], (.int .i64)⟩ (.node 2 ⟨1, 8, [.int .i64 0], (.int .i64)⟩ (.node 1 ⟨1, 8, [.nilFunc], .other⟩ .nil .nil) .nil) (.node 4 ⟨1, 1, [.bool false], .bool⟩ .nil .nil)) (.node 7 ⟨4, 24, [.int .i64 0, .int .i64 0, .bool false, .int .u8 0], (.struct [(0, 1), (1, 1), (2, 1), (3, 1)])⟩ (.node 6 ⟨1, 1, [.int .u8 0], (.int .u8)⟩ .nil .nil) (.node 8 ⟨4, 24, [.int .i64 0, .int .i64 0, .bool false, .int .u8 0], (.struct [(0, 1), (1, 1), (2, 1), (3, 1)])⟩ .nil .nil))) (.node 13 ⟨2, 24, [.string ⟨#[]⟩, .int .u64 0], (.struct [(0, 1), (1, 1)])⟩ (.node 11 ⟨1, 16, [.string ⟨#[]⟩], .string⟩ (.node 10 ⟨1, 16, [.string ⟨#[]⟩], .string⟩ .nil .nil) (.node 12 ⟨1, 8, [.int .u64 0], (.int .u64)⟩ .nil .nil)) (.node 15 ⟨1, 8, [.pointer none], .other⟩ (.node 14 ⟨2, 24, [.string ⟨#[]⟩, .int .u64 0], (.struct [(0, 1), (1, 1)])⟩ .nil .nil) (.node 16 ⟨1, 8, [.pointer none], .other⟩ .nil .nil)))) (.node 26 ⟨1, 24, [.slice none 0 0], (.slice 89)⟩ (.node 21 ⟨1, 4, [.int .i32 0], (.int .i32)⟩ (.node 19 ⟨1, 8, [.pointer none], (.struct [(0, 1)])⟩ (.node 18 ⟨1, 8, [.pointer none], (.struct [(0, 1)])⟩ .nil .nil) (.node 20 ⟨1, 16, [.nilIface], .other⟩ .nil .nil)) (.node 23 ⟨1, 8, [.int .i64 0], (.int .i64)⟩ (.node 22 ⟨1, 24, [.slice none 0 0], (.slice 32)⟩ .nil .nil) (.node 25 ⟨1, 8, [.nilFunc], .other⟩ .nil .nil))) (.node 31 ⟨2, 16, [.int .i64 0, .int .i64 0], (.struct [(0, 1), (1, 1)])⟩ (.node 29 ⟨1, 8, [.nilFunc], .other⟩ (.node 28 ⟨1, 8, [.nilFunc], .other⟩ .nil .nil) (.node 30 ⟨1, 8, [.nilFunc], .other⟩ .nil .nil)) (.node 33 ⟨1, 8, [.nilFunc], .other⟩ (.node 32 ⟨2, 16, [.int .i64 0, .int .i64 0], (.struct [(0, 1), (1, 1)])⟩ .nil .nil) (.node 34 ⟨1, 8, [.nilFunc], .other⟩ .nil .nil))))) (.node 54 ⟨1, 8, [.nilFunc], .other⟩ (.node 45 ⟨2, 24, [.string ⟨#[]⟩, .int .i64 0], (.struct [(0, 1), (1, 1)])⟩ (.node 40 ⟨1, 8, [.nilFunc], .other⟩ (.node 38 ⟨1, 8, [.nilFunc], .other⟩ (.node 37 ⟨1, 8, [.nilFunc], .other⟩ .nil .nil) (.node 39 ⟨1, 8, [.nilFunc], .other⟩ .nil .nil)) (.node 42 ⟨1, 24, [.slice none 0 0], (.slice 49)⟩ (.node 41 ⟨1, 24, [.slice none 0 0], (.slice 46)⟩ .nil .nil) (.node 44 ⟨1, 8, [.nilFunc], .other⟩ .nil .nil))) (.node 49 ⟨3, 32, [.string ⟨#[]⟩, .int .i64 0, .int .i64 0], (.struct [(0, 1), (1, 1), (2, 1)])⟩ (.node 47 ⟨1, 8, [.nilFunc], .other⟩ (.node 46 ⟨2, 24, [.string ⟨#[]⟩, .int .i64 0], (.struct [(0, 1), (1, 1)])⟩ .nil .nil) (.node 48 ⟨3, 32, [.string ⟨#[]⟩, .int .i64 0, .int .i64 0], (.struct [(0, 1), (1, 1), (2, 1)])⟩ .nil .nil)) (.node 51 ⟨1, 24, [.slice none 0 0], (.slice 113)⟩ (.node 50 ⟨1, 8, [.nilFunc], .other⟩ .nil .nil) (.node 52 ⟨1, 24, [.slice none 0 0], (.slice 118)⟩ .nil .nil)))) (.node 62 ⟨1, 24, [.slice none 0 0], (.slice 142)⟩ (.node 58 ⟨1, 8, [.nilFunc], .other⟩ (.node 56 ⟨1, 8, [.nilFunc], .other⟩ (.node 55 ⟨1, 8, [.nilFunc], .other⟩ .nil .nil) (.node 57 ⟨1, 24, [.slice none 0 0], (.slice 9)⟩ .nil .nil)) (.node 60 ⟨1, 24, [.slice none 0 0], (.slice 135)⟩ (.node 59 ⟨1, 8, [.nilFunc], .other⟩ .nil .nil) (.node 61 ⟨1, 24, [.slice none 0 0], (.slice 140)⟩ .nil .nil))) (.node 66 ⟨8, 168, [.string ⟨#[]⟩, .int .i64 0, .slice none 0 0, .slice none 0 0, .slice none 0 0, .slice none 0 0, .slice none 0 0, .slice none 0 0], (.struct [(0, 1), (1, 1), (2, 1), (3, 1), (4, 1), (5, 1), (6, 1), (7, 1)])⟩ (.node 64 ⟨1, 24, [.slice none 0 0], (.slice 75)⟩ (.node 63 ⟨1, 24, [.slice none 0 0], (.slice 183)⟩ .nil .nil) (.node 65 ⟨8, 168, [.string ⟨#[]⟩, .int .i64 0, .slice none 0 0, .slice none 0 0, .slice none 0 0, .slice none 0 0, .slice none 0 0, .slice none 0 0], (.struct [(0, 1), (1, 1), (2, 1), (3, 1), (4, 1), (5, 1), (6, 1), (7, 1)])⟩ .nil .nil)) (.node 68 ⟨3, 48, [.int .i64 0, .string ⟨#[]⟩, .slice none 0 0], (.struct [(0, 1), (1, 1), (2, 1)])⟩ (.node 67 ⟨1, 24, [.slice none 0 0], (.slice 69)⟩ .nil .nil) (.node 69 ⟨3, 48, [.int .i64 0, .string ⟨#[]⟩, .slice none 0 0], (.struct [(0, 1), (1, 1), (2, 1)])⟩ .nil .nil)))))) (.node 104 ⟨1, 8, [.nilFunc], .other⟩ (.node 88 ⟨1, 8, [.nilFunc], .other⟩ (.node 80 ⟨1, 8, [.nilFunc], .other⟩ (.node 75 ⟨14, 248, [.string ⟨#[]⟩, .slice none 0 0, .slice none 0 0, .int .i64 0, .string ⟨#[]⟩, .slice none 0 0, .int .i64 0, .int .i64 0, .string ⟨#[]⟩, .slice none 0 0, .slice none 0 0, .slice none 0 0, .slice none 0 0, .int .i64 0], (.struct [(0, 1), (1, 1), (2, 1), (3, 3), (6, 8)])⟩ (.node 73 ⟨8, 136, [.int .i64 0, .int .i64 0, .string ⟨#[]⟩, .slice none 0 0, .slice none 0 0, .slice none 0 0, .slice none 0 0, .int .i64 0], (.struct [(0, 1), (1, 1), (2, 1), (3, 1), (4, 1), (5, 1), (6, 1), (7, 1)])⟩ (.node 72 ⟨8, 136, [.int .i64 0, .int .i64 0, .string ⟨#[]⟩, .slice none 0 0, .slice none 0 0, .slice none 0 0, .slice none 0 0, .int .i64 0], (.struct [(0, 1), (1, 1), (2, 1), (3, 1), (4, 1), (5, 1), (6, 1), (7, 1)])⟩ (.node 71 ⟨1, 24, [.slice none 0 0], (.slice 188)⟩ .nil .nil) .nil) (.node 74 ⟨14, 248, [.string ⟨#[]⟩, .slice none 0 0, .slice none 0 0, .int .i64 0, .string ⟨#[]⟩, .slice none 0 0, .int .i64 0, .int .i64 0, .string ⟨#[]⟩, .slice none 0 0, .slice none 0 0, .slice none 0 0, .slice none 0 0, .int .i64 0], (.struct [(0, 1), (1, 1), (2, 1), (3, 3), (6, 8)])⟩ .nil .nil)) (.node 77 ⟨1, 24, [.slice none 0 0], (.struct [(0, 1)])⟩ (.node 76 ⟨1, 24, [.slice none 0 0], (.slice 129)⟩ .nil .nil) (.node 78 ⟨1, 24, [.slice none 0 0], (.struct [(0, 1)])⟩ .nil .nil))) (.node 84 ⟨1, 8, [.nilFunc], .other⟩ (.node 82 ⟨1, 8, [.nilFunc], .other⟩ (.node 81 ⟨1, 8, [.nilFunc], .other⟩ .nil .nil) (.node 83 ⟨1, 8, [.nilFunc], .other⟩ .nil .nil)) (.node 86 ⟨1, 8, [.nilFunc], .other⟩ (.node 85 ⟨1, 8, [.nilFunc], .other⟩ .nil .nil) (.node 87 ⟨1, 8, [.nilFunc], .other⟩ .nil .nil)))) (.node 96 ⟨1, 8, [.nilFunc], .other⟩ (.node 92 ⟨1, 8, [.nilFunc], .other⟩ (.node 90 ⟨1, 24, [.slice none 0 0], (.slice 4)⟩ (.node 89 ⟨2, 16, [.int .i64 0, .int .i64 0], (.array 2 3)⟩ .nil .nil) (.node 91 ⟨1, 8, [.nilFunc], .other⟩ .nil .nil)) (.node 94 ⟨1, 8, [.nilFunc], .other⟩ (.node 93 ⟨1, 8, [.nilFunc], .other⟩ .nil .nil) (.node 95 ⟨1, 8, [.nilFunc], .other⟩ .nil .nil))) (.node 100 ⟨1, 8, [.nilFunc], .other⟩ (.node 98 ⟨1, 8, [.nilFunc], .other⟩ (.node 97 ⟨1, 8, [.map none], .other⟩ .nil .nil) (.node 99 ⟨1, 8, [.nilFunc], .other⟩ .nil .nil)) (.node 102 ⟨1, 8, [.nilFunc], .other⟩ (.node 101 ⟨1, 8, [.nilFunc], .other⟩ .nil .nil) (.node 103 ⟨1, 8, [.map none], .other⟩ .nil .nil))))) (.node 121 ⟨1, 8, [.nilFunc], .other⟩ (.node 112 ⟨3, 48, [.string ⟨#[]⟩, .int .i64 0, .slice none 0 0], (.struct [(0, 1), (1, 1), (2, 1)])⟩ (.node 108 ⟨1, 8, [.map none], .other⟩ (.node 106 ⟨1, 8, [.nilFunc], .other⟩ (.node 105 ⟨1, 8, [.nilFunc], .other⟩ .nil .nil) (.node 107 ⟨1, 8, [.pointer none], .other⟩ .nil .nil)) (.node 110 ⟨4, 80, [.slice none 0 0, .slice none 0 0, .map none, .slice none 0 0], (.struct [(0, 1), (1, 1), (2, 1), (3, 1)])⟩ (.node 109 ⟨4, 80, [.slice none 0 0, .slice none 0 0, .map none, .slice none 0 0], (.struct [(0, 1), (1, 1), (2, 1), (3, 1)])⟩ .nil .nil) (.node 111 ⟨1, 8, [.nilFunc], .other⟩ .nil .nil))) (.node 117 ⟨3, 32, [.string ⟨#[]⟩, .int .i64 0, .int .i64 0], (.struct [(0, 1), (1, 1), (2, 1)])⟩ (.node 115 ⟨1, 8, [.nilFunc], .other⟩ (.node 113 ⟨3, 48, [.string ⟨#[]⟩, .int .i64 0, .slice none 0 0], (.struct [(0, 1), (1, 1), (2, 1)])⟩ .nil .nil) (.node 116 ⟨1, 8, [.pointer none], .other⟩ .nil .nil)) (.node 119 ⟨1, 8, [.nilFunc], .other⟩ (.node 118 ⟨3, 32, [.string ⟨#[]⟩, .int .i64 0, .int .i64 0], (.struct [(0, 1), (1, 1), (2, 1)])⟩ .nil .nil) (.node 120 ⟨1, 8, [.nilFunc], .other⟩ .nil .nil)))) (.node 131 ⟨1, 8, [.nilFunc], .other⟩ (.node 126 ⟨1, 24, [.slice none 0 0], (.slice 150)⟩ (.node 124 ⟨1, 8, [.nilFunc], .other⟩ (.node 122 ⟨1, 8, [.nilFunc], .other⟩ .nil .nil) (.node 125 ⟨1, 8, [.nilFunc], .other⟩ .nil .nil)) (.node 128 ⟨4, 72, [.string ⟨#[]⟩, .int .i64 0, .slice none 0 0, .slice none 0 0], (.struct [(0, 1), (1, 1), (2, 1), (3, 1)])⟩ (.node 127 ⟨1, 24, [.slice none 0 0], (.slice 3)⟩ .nil .nil) (.node 129 ⟨4, 72, [.string ⟨#[]⟩, .int .i64 0, .slice none 0 0, .slice none 0 0], (.struct [(0, 1), (1, 1), (2, 1), (3, 1)])⟩ .nil .nil))) (.node 135 ⟨3, 64, [.string ⟨#[]⟩, .slice none 0 0, .slice none 0 0], (.struct [(0, 1), (1, 1), (2, 1)])⟩ (.node 133 ⟨1, 24, [.slice none 0 0], (.slice 137)⟩ (.node 132 ⟨1, 8, [.nilFunc], .other⟩ .nil .nil) (.node 134 ⟨3, 64, [.string ⟨#[]⟩, .slice none 0 0, .slice none 0 0], (.struct [(0, 1), (1, 1), (2, 1)])⟩ .nil .nil)) (.node 137 ⟨2, 40, [.string ⟨#[]⟩, .slice none 0 0], (.struct [(0, 1), (1, 1)])⟩ (.node 136 ⟨2, 40, [.string ⟨#[]⟩, .slice none 0 0], (.struct [(0, 1), (1, 1)])⟩ .nil .nil) (.node 138 ⟨1, 8, [.nilFunc], .other⟩ .nil .nil))))))) (.node 210 ⟨1, 24, [.slice none 0 0], (.slice 52)⟩ (.node 175 ⟨1, 8, [.nilFunc], .other⟩ (.node 157 ⟨1, 8, [.nilFunc], .other⟩ (.node 148 ⟨4, 56, [.int .i64 0, .int .i64 0, .string ⟨#[]⟩, .slice none 0 0], (.struct [(0, 1), (1, 1), (2, 1), (3, 1)])⟩ (.node 144 ⟨1, 8, [.nilFunc], .other⟩ (.node 142 ⟨3, 56, [.string ⟨#[]⟩, .string ⟨#[]⟩, .slice none 0 0], (.struct [(0, 1), (1, 1), (2, 1)])⟩ (.node 141 ⟨3, 56, [.string ⟨#[]⟩, .string ⟨#[]⟩, .slice none 0 0], (.struct [(0, 1), (1, 1), (2, 1)])⟩ (.node 140 ⟨2, 40, [.string ⟨#[]⟩, .slice none 0 0], (.struct [(0, 1), (1, 1)])⟩ .nil .nil) .nil) (.node 143 ⟨1, 8, [.nilFunc], .other⟩ .nil .nil)) (.node 146 ⟨1, 24, [.slice none 0 0], (.slice 148)⟩ (.node 145 ⟨1, 8, [.map none], .other⟩ .nil .nil) (.node 147 ⟨4, 56, [.int .i64 0, .int .i64 0, .string ⟨#[]⟩, .slice none 0 0], (.struct [(0, 1), (1, 1), (2, 1), (3, 1)])⟩ .nil .nil))) (.node 153 ⟨1, 8, [.nilFunc], .other⟩ (.node 150 ⟨5, 64, [.int .i64 0, .int .i64 0, .int .i64 0, .string ⟨#[]⟩, .slice none 0 0], (.struct [(0, 1), (1, 4)])⟩ (.node 149 ⟨5, 64, [.int .i64 0, .int .i64 0, .int .i64 0, .string ⟨#[]⟩, .slice none 0 0], (.struct [(0, 1), (1, 4)])⟩ .nil .nil) (.node 152 ⟨1, 8, [.nilFunc], .other⟩ .nil .nil)) (.node 155 ⟨1, 8, [.nilFunc], .other⟩ (.node 154 ⟨1, 8, [.nilFunc], .other⟩ .nil .nil) (.node 156 ⟨1, 8, [.nilFunc], .other⟩ .nil .nil)))) (.node 165 ⟨1, 8, [.nilFunc], .other⟩ (.node 161 ⟨1, 8, [.nilFunc], .other⟩ (.node 159 ⟨1, 8, [.nilFunc], .other⟩ (.node 158 ⟨1, 8, [.nilFunc], .other⟩ .nil .nil) (.node 160 ⟨1, 8, [.nilFunc], .other⟩ .nil .nil)) (.node 163 ⟨1, 24, [.slice none 0 0], (.slice 22)⟩ (.node 162 ⟨1, 8, [.int .u64 0], (.int .u64)⟩ .nil .nil) (.node 164 ⟨1, 8, [.nilFunc], .other⟩ .nil .nil))) (.node 170 ⟨1, 8, [.nilFunc], .other⟩ (.node 167 ⟨1, 8, [.nilFunc], .other⟩ (.node 166 ⟨1, 8, [.nilFunc], .other⟩ .nil .nil) (.node 168 ⟨1, 8, [.nilFunc], .other⟩ .nil .nil)) (.node 172 ⟨1, 8, [.nilFunc], .other⟩ (.node 171 ⟨1, 8, [.nilFunc], .other⟩ .nil .nil) (.node 174 ⟨1, 8, [.nilFunc], .other⟩ .nil .nil))))) (.node 192 ⟨1, 8, [.nilFunc], .other⟩ (.node 183 ⟨15, 272, [.string ⟨#[]⟩, .slice none 0 0, .slice none 0 0, .slice none 0 0, .int .i64 0, .string ⟨#[]⟩, .slice none 0 0, .int .i64 0, .int .i64 0, .string ⟨#[]⟩, .slice none 0 0, .slice none 0 0, .slice none 0 0, .slice none 0 0, .int .i64 0], (.struct [(0, 1), (1, 1), (2, 1), (3, 1), (4, 3), (7, 8)])⟩ (.node 179 ⟨17, 344, [.string ⟨#[]⟩, .int .i64 0, .slice none 0 0, .slice none 0 0, .slice none 0 0, .slice none 0 0, .slice none 0 0, .slice none 0 0, .string ⟨#[]⟩, .int .i64 0, .slice none 0 0, .slice none 0 0, .slice none 0 0, .slice none 0 0, .slice none 0 0, .slice none 0 0, .map none], (.struct [(0, 8), (8, 8), (16, 1)])⟩ (.node 177 ⟨1, 8, [.pointer none], .other⟩ (.node 176 ⟨1, 8, [.nilFunc], .other⟩ .nil .nil) (.node 178 ⟨1, 8, [.map none], .other⟩ .nil .nil)) (.node 181 ⟨1, 8, [.nilFunc], .other⟩ (.node 180 ⟨17, 344, [.string ⟨#[]⟩, .int .i64 0, .slice none 0 0, .slice none 0 0, .slice none 0 0, .slice none 0 0, .slice none 0 0, .slice none 0 0, .string ⟨#[]⟩, .int .i64 0, .slice none 0 0, .slice none 0 0, .slice none 0 0, .slice none 0 0, .slice none 0 0, .slice none 0 0, .map none], (.struct [(0, 8), (8, 8), (16, 1)])⟩ .nil .nil) (.node 182 ⟨15, 272, [.string ⟨#[]⟩, .slice none 0 0, .slice none 0 0, .slice none 0 0, .int .i64 0, .string ⟨#[]⟩, .slice none 0 0, .int .i64 0, .int .i64 0, .string ⟨#[]⟩, .slice none 0 0, .slice none 0 0, .slice none 0 0, .slice none 0 0, .int .i64 0], (.struct [(0, 1), (1, 1), (2, 1), (3, 1), (4, 3), (7, 8)])⟩ .nil .nil))) (.node 187 ⟨12, 192, [.int .i64 0, .int .i64 0, .string ⟨#[]⟩, .slice none 0 0, .int .i64 0, .int .i64 0, .string ⟨#[]⟩, .slice none 0 0, .slice none 0 0, .slice none 0 0, .slice none 0 0, .int .i64 0], (.struct [(0, 4), (4, 8)])⟩ (.node 185 ⟨4, 56, [.int .i64 0, .int .i64 0, .string ⟨#[]⟩, .slice none 0 0], (.struct [(0, 1), (1, 1), (2, 1), (3, 1)])⟩ (.node 184 ⟨1, 24, [.slice none 0 0], (.slice 186)⟩ .nil .nil) (.node 186 ⟨4, 56, [.int .i64 0, .int .i64 0, .string ⟨#[]⟩, .slice none 0 0], (.struct [(0, 1), (1, 1), (2, 1), (3, 1)])⟩ .nil .nil)) (.node 189 ⟨1, 8, [.nilFunc], .other⟩ (.node 188 ⟨12, 192, [.int .i64 0, .int .i64 0, .string ⟨#[]⟩, .slice none 0 0, .int .i64 0, .int .i64 0, .string ⟨#[]⟩, .slice none 0 0, .slice none 0 0, .slice none 0 0, .slice none 0 0, .int .i64 0], (.struct [(0, 4), (4, 8)])⟩ .nil .nil) (.node 190 ⟨1, 8, [.nilFunc], .other⟩ .nil .nil)))) (.node 201 ⟨1, 8, [.nilFunc], .other⟩ (.node 197 ⟨1, 8, [.nilFunc], .other⟩ (.node 194 ⟨1, 8, [.nilFunc], .other⟩ (.node 193 ⟨1, 8, [.nilFunc], .other⟩ .nil .nil) (.node 195 ⟨1, 8, [.int .i64 0], (.int .i64)⟩ .nil .nil)) (.node 199 ⟨1, 8, [.nilFunc], .other⟩ (.node 198 ⟨1, 8, [.nilFunc], .other⟩ .nil .nil) (.node 200 ⟨1, 8, [.nilFunc], .other⟩ .nil .nil))) (.node 205 ⟨1, 8, [.nilFunc], .other⟩ (.node 203 ⟨1, 8, [.nilFunc], .other⟩ (.node 202 ⟨1, 4, [.int .u32 0], (.int .u32)⟩ .nil .nil) (.node 204 ⟨1, 8, [.int .u64 0], (.int .u64)⟩ .nil .nil)) (.node 207 ⟨1, 24, [.slice none 0 0], (.slice 5)⟩ (.node 206 ⟨1, 8, [.nilFunc], .other⟩ .nil .nil) (.node 209 ⟨1, 8, [.nilFunc], .other⟩ .nil .nil)))))) (.node 245 ⟨1, 8, [.nilFunc], .other⟩ (.node 228 ⟨1, 8, [.nilFunc], .other⟩ (.node 220 ⟨1, 8, [.nilFunc], .other⟩ (.node 215 ⟨1, 8, [.nilFunc], .other⟩ (.node 213 ⟨1, 8, [.nilFunc], .other⟩ (.node 212 ⟨1, 8, [.nilFunc], .other⟩ (.node 211 ⟨1, 8, [.nilFunc], .other⟩ .nil .nil) .nil) (.node 214 ⟨1, 8, [.nilFunc], .other⟩ .nil .nil)) (.node 217 ⟨1, 8, [.nilFunc], .other⟩ (.node 216 ⟨1, 8, [.nilFunc], .other⟩ .nil .nil) (.node 218 ⟨1, 8, [.pointer none], .other⟩ .nil .nil))) (.node 224 ⟨1, 8, [.nilFunc], .other⟩ (.node 222 ⟨3, 56, [.slice none 0 0, .slice none 0 0, .pointer none], (.struct [(0, 1), (1, 1), (2, 1)])⟩ (.node 221 ⟨3, 56, [.slice none 0 0, .slice none 0 0, .pointer none], (.struct [(0, 1), (1, 1), (2, 1)])⟩ .nil .nil) (.node 223 ⟨1, 8, [.int .u64 0], (.int .u64)⟩ .nil .nil)) (.node 226 ⟨1, 8, [.nilFunc], .other⟩ (.node 225 ⟨1, 8, [.nilFunc], .other⟩ .nil .nil) (.node 227 ⟨1, 8, [.nilFunc], .other⟩ .nil .nil)))) (.node 236 ⟨1, 8, [.nilFunc], .other⟩ (.node 232 ⟨1, 8, [.nilFunc], .other⟩ (.node 230 ⟨1, 8, [.nilFunc], .other⟩ (.node 229 ⟨1, 8, [.nilFunc], .other⟩ .nil .nil) (.node 231 ⟨1, 8, [.nilFunc], .other⟩ .nil .nil)) (.node 234 ⟨1, 8, [.nilFunc], .other⟩ (.node 233 ⟨1, 8, [.nilFunc], .other⟩ .nil .nil) (.node 235 ⟨1, 8, [.nilFunc], .other⟩ .nil .nil))) (.node 241 ⟨1, 8, [.nilFunc], .other⟩ (.node 238 ⟨1, 8, [.nilFunc], .other⟩ (.node 237 ⟨1, 8, [.nilFunc], .other⟩ .nil .nil) (.node 239 ⟨1, 8, [.nilFunc], .other⟩ .nil .nil)) (.node 243 ⟨1, 8, [.nilFunc], .other⟩ (.node 242 ⟨1, 8, [.nilFunc], .other⟩ .nil .nil) (.node 244 ⟨1, 8, [.nilFunc], .other⟩ .nil .nil))))) (.node 265 ⟨1, 8, [.nilFunc], .other⟩ (.node 256 ⟨1, 8, [.pointer none], .other⟩ (.node 251 ⟨1, 8, [.nilFunc], .other⟩ (.node 248 ⟨1, 8, [.nilFunc], .other⟩ (.node 246 ⟨1, 8, [.pointer none], .other⟩ .nil .nil) (.node 249 ⟨1, 8, [.nilFunc], .other⟩ .nil .nil)) (.node 254 ⟨1, 8, [.nilFunc], .other⟩ (.node 253 ⟨1, 8, [.nilFunc], .other⟩ .nil .nil) (.node 255 ⟨1, 8, [.nilFunc], .other⟩ .nil .nil))) (.node 261 ⟨1, 8, [.nilFunc], .other⟩ (.node 259 ⟨1, 8, [.nilFunc], .other⟩ (.node 258 ⟨1, 8, [.nilFunc], .other⟩ .nil .nil) (.node 260 ⟨1, 8, [.nilFunc], .other⟩ .nil .nil)) (.node 263 ⟨3, 56, [.slice none 0 0, .slice none 0 0, .pointer none], (.struct [(0, 1), (1, 1), (2, 1)])⟩ (.node 262 ⟨3, 56, [.slice none 0 0, .slice none 0 0, .pointer none], (.struct [(0, 1), (1, 1), (2, 1)])⟩ .nil .nil) (.node 264 ⟨1, 8, [.nilFunc], .other⟩ .nil .nil)))) (.node 273 ⟨1, 1, [.int .u8 0], (.int .u8)⟩ (.node 269 ⟨0, 0, [], (.array 0 16)⟩ (.node 267 ⟨4, 40, [.pointer none, .pointer none, .pointer none, .string ⟨#[]⟩], (.struct [(0, 1), (1, 1), (2, 1), (3, 1)])⟩ (.node 266 ⟨1, 8, [.nilFunc], .other⟩ .nil .nil) (.node 268 ⟨4, 40, [.pointer none, .pointer none, .pointer none, .string ⟨#[]⟩], (.struct [(0, 1), (1, 1), (2, 1), (3, 1)])⟩ .nil .nil)) (.node 271 ⟨0, 0, [], (.struct [(0, 0)])⟩ (.node 270 ⟨0, 0, [], (.struct [(0, 0)])⟩ .nil .nil) (.node 272 ⟨1, 8, [.nilFunc], .other⟩ .nil .nil))) (.node 277 ⟨1, 4, [.int .i32 0], (.int .i32)⟩ (.node 275 ⟨1, 8, [.nilFunc], .other⟩ (.node 274 ⟨1, 1, [.int .u8 0], (.int .u8)⟩ .nil .nil) (.node 276 ⟨1, 8, [.pointer none], .other⟩ .nil .nil)) (.node 279 ⟨11, 48, [.int .u64 0, .int .u64 0, .int .u32 0, .int .u8 0, .int .u8 0, .int .u8 0, .int .u8 0, .nilFunc, .pointer none, .int .i32 0, .int .i32 0], (.struct [(0, 1), (1, 1), (2, 1), (3, 1), (4, 1), (5, 1), (6, 1), (7, 1), (8, 1), (9, 1), (10, 1)])⟩ (.node 278 ⟨1, 4, [.int .i32 0], (.int .i32)⟩ .nil .nil) (.node 280 ⟨11, 48, [.int .u64 0, .int .u64 0, .int .u32 0, .int .u8 0, .int .u8 0, .int .u8 0, .int .u8 0, .nilFunc, .pointer none, .int .i32 0, .int .i32 0], (.struct [(0, 1), (1, 1), (2, 1), (3, 1), (4, 1), (5, 1), (6, 1), (7, 1), (8, 1), (9, 1), (10, 1)])⟩ .nil .nil))))))))
set_option maxRecDepth 100000 in
theorem tabOkB : tab.okB Try.prog = true := by kernel_rfl
theorem tok : TabOk Try.prog tab := tab_ok tabOkB
end Go.Proofs.Ytnkafjkcjpajgaa
namespace Go.Proofs.Ytnkafjkcjpajgaa
open Go.RowKit
inductive V where
  | mk (kind num : Int) (text : ByteArray) (args : List V)
mutual
def V.ts : V → List T
  | .mk k n t l => [.lit (.int .i64 k), .lit (.int .i64 n), .lit (.string t), .row l.length 4 (V.all l)]
def V.all : List V → List T
  | [] => []
  | v :: r => v.ts ++ V.all r
end
theorem V.all_eq : ∀ l : List V, V.all l = l.flatMap V.ts
  | [] => rfl
  | v :: l => by rw [V.all, V.all_eq l]; rfl
theorem V.ts_len : ∀ v : V, v.ts.length = 4
  | .mk _ _ _ _ => rfl
def V.row (l : List V) : T := .row l.length 4 (V.all l)
def V.t (v : V) : T := .agg v.ts
mutual
def V.same : V → V → Bool
  | .mk k n t l, .mk k' n' t' l' => decide (k = k') && decide (n = n') && decide (t = t') && V.sames l l'
def V.sames : List V → List V → Bool
  | [], [] => true
  | v :: l, v' :: l' => v.same v' && V.sames l l'
  | _, _ => false
end
theorem V.at {l : List V} {k : Nat} {v : V} (h : l[k]? = some v) : ((V.all l).drop (k * 4)).take 4 = v.ts := by rw [V.all_eq]; exact flat_at V.ts 4 V.ts_len h
mutual
def V.size : V → Nat
  | .mk _ _ _ l => V.sizes l + 1
def V.sizes : List V → Nat
  | [] => 0
  | v :: r => v.size + V.sizes r
end
theorem V.size_mem {v : V} : ∀ {l : List V}, v ∈ l → v.size ≤ V.sizes l
  | [], h => by simp at h
  | x :: l, h => by
    simp only [V.sizes]
    rcases List.mem_cons.1 h with rfl | h
    · omega
    · have := V.size_mem h; omega
theorem V.len_sizes : ∀ l : List V, l.length ≤ V.sizes l
  | [] => by simp [V.sizes]
  | .mk _ _ _ _ :: l => by have := V.len_sizes l; simp only [V.sizes, V.size, List.length_cons]; omega
end Go.Proofs.Ytnkafjkcjpajgaa
namespace Go.Proofs.Ytnkafjkcjpajgaa
open Go.RowKit
theorem nth {α : Type} {l : List α} {k : Nat} (h : k < l.length) : ∃ a, l[k]? = some a := ⟨_, List.getElem?_eq_getElem h⟩
def V.args : V → List V
  | .mk _ _ _ l => l
end Go.Proofs.Ytnkafjkcjpajgaa
namespace Go.Proofs.Ytnkafjkcjpajgaa
open Go.RowKit
inductive Y where
  | mk (kind : Int) (name : ByteArray) (args : List Y)
mutual
def Y.ts : Y → List T
  | .mk k n l => [.lit (.int .i64 k), .lit (.string n), .row l.length 3 (Y.all l)]
def Y.all : List Y → List T
  | [] => []
  | v :: r => v.ts ++ Y.all r
end
theorem Y.all_eq : ∀ l : List Y, Y.all l = l.flatMap Y.ts
  | [] => rfl
  | v :: l => by rw [Y.all, Y.all_eq l]; rfl
theorem Y.ts_len : ∀ v : Y, v.ts.length = 3
  | .mk _ _ _ => rfl
def Y.row (l : List Y) : T := .row l.length 3 (Y.all l)
def Y.t (v : Y) : T := .agg v.ts
theorem Y.at {l : List Y} {k : Nat} {v : Y} (h : l[k]? = some v) : ((Y.all l).drop (k * 3)).take 3 = v.ts := by rw [Y.all_eq]; exact flat_at Y.ts 3 Y.ts_len h
mutual
def Y.size : Y → Nat
  | .mk _ n l => Y.sizes l + n.size + 1
def Y.sizes : List Y → Nat
  | [] => 0
  | v :: r => v.size + Y.sizes r
end
theorem Y.size_mem {v : Y} : ∀ {l : List Y}, v ∈ l → v.size ≤ Y.sizes l
  | [], h => by simp at h
  | x :: l, h => by
    simp only [Y.sizes]
    rcases List.mem_cons.1 h with rfl | h
    · omega
    · have := Y.size_mem h; omega
theorem Y.sizes_sum : ∀ l : List Y, Y.sizes l = (l.map Y.size).sum
  | [] => rfl
  | v :: l => by simp [Y.sizes, Y.sizes_sum l]
instance : Inhabited Y := ⟨.mk 0 ⟨#[]⟩ []⟩
theorem Y.len_sizes : ∀ l : List Y, l.length ≤ Y.sizes l
  | [] => by simp [Y.sizes]
  | .mk _ _ _ :: l => by have := Y.len_sizes l; simp only [Y.sizes, Y.size, List.length_cons]; omega
def Y.args : Y → List Y
  | .mk _ _ l => l
end Go.Proofs.Ytnkafjkcjpajgaa
namespace Go.Proofs.Ytnkafjkcjpajgaa
open Go.RowKit
mutual
inductive Ex where
  | mk (kind num : Int) (text : ByteArray) (names : List ByteArray) (types : List Y) (args : List Ex) (arms : List Ar) (pos : Int)
inductive Ar where
  | mk (pat : V) (body : Ex)
end
mutual
def Ex.ts : Ex → List T
  | .mk k n t ns ys l rs a => [.lit (.int .i64 k), .lit (.int .i64 n), .lit (.string t), strRow ns, Y.row ys, .row l.length 8 (Ex.all l), .row rs.length 12 (Ar.all rs), .lit (.int .i64 a)]
def Ex.all : List Ex → List T
  | [] => []
  | v :: r => v.ts ++ Ex.all r
def Ar.ts : Ar → List T
  | .mk p b => p.ts ++ b.ts
def Ar.all : List Ar → List T
  | [] => []
  | v :: r => v.ts ++ Ar.all r
end
theorem Ex.all_eq : ∀ l : List Ex, Ex.all l = l.flatMap Ex.ts
  | [] => rfl
  | v :: l => by rw [Ex.all, Ex.all_eq l]; rfl
theorem Ar.all_eq : ∀ l : List Ar, Ar.all l = l.flatMap Ar.ts
  | [] => rfl
  | v :: l => by rw [Ar.all, Ar.all_eq l]; rfl
theorem Ex.ts_len : ∀ v : Ex, v.ts.length = 8
  | .mk _ _ _ _ _ _ _ _ => rfl
theorem Ar.ts_len : ∀ v : Ar, v.ts.length = 12
  | .mk p b => by rw [Ar.ts, List.length_append, V.ts_len, Ex.ts_len]
def Ex.row (l : List Ex) : T := .row l.length 8 (Ex.all l)
def Ex.t (v : Ex) : T := .agg v.ts
def Ar.row (l : List Ar) : T := .row l.length 12 (Ar.all l)
theorem Ex.at {l : List Ex} {k : Nat} {v : Ex} (h : l[k]? = some v) : ((Ex.all l).drop (k * 8)).take 8 = v.ts := by rw [Ex.all_eq]; exact flat_at Ex.ts 8 Ex.ts_len h
theorem Ar.at {l : List Ar} {k : Nat} {v : Ar} (h : l[k]? = some v) : ((Ar.all l).drop (k * 12)).take 12 = v.ts := by rw [Ar.all_eq]; exact flat_at Ar.ts 12 Ar.ts_len h
def strSize (l : List ByteArray) : Nat := (l.map fun s => s.size + 1).sum
mutual
def Ex.size : Ex → Nat
  | .mk _ _ t ns ys l rs _ => t.size + strSize ns + Y.sizes ys + Ex.sizes l + Ar.sizes rs + 1
def Ex.sizes : List Ex → Nat
  | [] => 0
  | v :: r => v.size + Ex.sizes r
def Ar.size : Ar → Nat
  | .mk p b => p.size + b.size
def Ar.sizes : List Ar → Nat
  | [] => 0
  | v :: r => v.size + Ar.sizes r
end
theorem Ex.sizes_sum : ∀ l : List Ex, Ex.sizes l = (l.map Ex.size).sum
  | [] => rfl
  | v :: l => by simp [Ex.sizes, Ex.sizes_sum l]
theorem Ar.sizes_sum : ∀ l : List Ar, Ar.sizes l = (l.map Ar.size).sum
  | [] => rfl
  | v :: l => by simp [Ar.sizes, Ar.sizes_sum l]
theorem sum_mem' {α : Type} (μ : α → Nat) : ∀ {l : List α} {a : α}, a ∈ l → μ a ≤ (l.map μ).sum
  | [], _, h => by simp at h
  | x :: l, a, h => by
    simp only [List.map_cons, List.sum_cons]
    rcases List.mem_cons.1 h with rfl | h
    · omega
    · have := sum_mem' μ h; omega
theorem len_sum' {α : Type} (μ : α → Nat) (h : ∀ a, 1 ≤ μ a) : ∀ l : List α, l.length ≤ (l.map μ).sum
  | [] => by simp
  | x :: l => by have := h x; have := len_sum' μ h l; simp only [List.map_cons, List.sum_cons, List.length_cons]; omega
theorem Ex.size_mem {v : Ex} {l : List Ex} (h : v ∈ l) : v.size ≤ Ex.sizes l := by rw [Ex.sizes_sum]; exact sum_mem' Ex.size h
theorem Ar.size_mem {v : Ar} {l : List Ar} (h : v ∈ l) : v.size ≤ Ar.sizes l := by rw [Ar.sizes_sum]; exact sum_mem' Ar.size h
theorem Ex.size_pos : ∀ v : Ex, 1 ≤ v.size
  | .mk _ _ _ _ _ _ _ _ => by simp only [Ex.size]; omega
theorem Ar.size_pos : ∀ v : Ar, 1 ≤ v.size
  | .mk p b => by have := b.size_pos; simp only [Ar.size]; omega
theorem Ex.len_sizes (l : List Ex) : l.length ≤ Ex.sizes l := by rw [Ex.sizes_sum]; exact len_sum' Ex.size Ex.size_pos l
theorem Ar.len_sizes (l : List Ar) : l.length ≤ Ar.sizes l := by rw [Ar.sizes_sum]; exact len_sum' Ar.size Ar.size_pos l
instance : Inhabited Ex := ⟨.mk 0 0 ⟨#[]⟩ [] [] [] [] 0⟩
instance : Inhabited Ar := ⟨.mk (.mk 0 0 ⟨#[]⟩ []) default⟩
structure Us where
  name : ByteArray
  low : Int
  high : Int
def Us.ts : Us → List T
  | ⟨f_name, f_low, f_high⟩ => [.lit (.string f_name), .lit (.int .i64 f_low), .lit (.int .i64 f_high)]
theorem Us.ts_len (x : Us) : x.ts.length = 3 := by simp [Us.ts]
def Us.t (x : Us) : T := .agg x.ts
def Us.row (l : List Us) : T := .row l.length 3 (l.flatMap Us.ts)
theorem Us.at {l : List Us} {k : Nat} {x : Us} (h : l[k]? = some x) : ((l.flatMap Us.ts).drop (k * 3)).take 3 = x.ts := flat_at Us.ts 3 Us.ts_len h
def Us.size : Us → Nat
  | ⟨f_name, _, _⟩ => f_name.size + 1
def Us.sizes (l : List Us) : Nat := (l.map Us.size).sum
theorem Us.size_mem {x : Us} {l : List Us} (h : x ∈ l) : x.size ≤ Us.sizes l := sum_mem' Us.size h
theorem Us.len_sizes (l : List Us) : l.length ≤ Us.sizes l := len_sum' Us.size (fun x => by simp only [Us.size]; omega) l
instance : Inhabited Us := ⟨⟨⟨#[]⟩, 0, 0⟩⟩
structure Mk where
  name : ByteArray
  args : List Y
def Mk.ts : Mk → List T
  | ⟨f_name, f_args⟩ => [.lit (.string f_name), Y.row f_args]
theorem Mk.ts_len (x : Mk) : x.ts.length = 2 := by simp [Mk.ts]
def Mk.t (x : Mk) : T := .agg x.ts
def Mk.row (l : List Mk) : T := .row l.length 2 (l.flatMap Mk.ts)
theorem Mk.at {l : List Mk} {k : Nat} {x : Mk} (h : l[k]? = some x) : ((l.flatMap Mk.ts).drop (k * 2)).take 2 = x.ts := flat_at Mk.ts 2 Mk.ts_len h
def Mk.size : Mk → Nat
  | ⟨f_name, f_args⟩ => f_name.size + Y.sizes f_args + 1
def Mk.sizes (l : List Mk) : Nat := (l.map Mk.size).sum
theorem Mk.size_mem {x : Mk} {l : List Mk} (h : x ∈ l) : x.size ≤ Mk.sizes l := sum_mem' Mk.size h
theorem Mk.len_sizes (l : List Mk) : l.length ≤ Mk.sizes l := len_sum' Mk.size (fun x => by simp only [Mk.size]; omega) l
instance : Inhabited Mk := ⟨⟨⟨#[]⟩, []⟩⟩
structure Da where
  name : ByteArray
  params : List ByteArray
  makes : List Mk
def Da.ts : Da → List T
  | ⟨f_name, f_params, f_makes⟩ => [.lit (.string f_name), strRow f_params, Mk.row f_makes]
theorem Da.ts_len (x : Da) : x.ts.length = 3 := by simp [Da.ts]
def Da.t (x : Da) : T := .agg x.ts
def Da.row (l : List Da) : T := .row l.length 3 (l.flatMap Da.ts)
theorem Da.at {l : List Da} {k : Nat} {x : Da} (h : l[k]? = some x) : ((l.flatMap Da.ts).drop (k * 3)).take 3 = x.ts := flat_at Da.ts 3 Da.ts_len h
def Da.size : Da → Nat
  | ⟨f_name, f_params, f_makes⟩ => f_name.size + strSize f_params + Mk.sizes f_makes + 1
def Da.sizes (l : List Da) : Nat := (l.map Da.size).sum
theorem Da.size_mem {x : Da} {l : List Da} (h : x ∈ l) : x.size ≤ Da.sizes l := sum_mem' Da.size h
theorem Da.len_sizes (l : List Da) : l.length ≤ Da.sizes l := len_sum' Da.size (fun x => by simp only [Da.size]; omega) l
instance : Inhabited Da := ⟨⟨⟨#[]⟩, [], []⟩⟩
structure Fu where
  name : ByteArray
  params : List ByteArray
  names : List ByteArray
  types : List Y
  out : Y
  body : Ex
def Fu.ts : Fu → List T
  | ⟨f_name, f_params, f_names, f_types, f_out, f_body⟩ => [.lit (.string f_name), strRow f_params, strRow f_names, Y.row f_types] ++ f_out.ts ++ f_body.ts
theorem Fu.ts_len (x : Fu) : x.ts.length = 15 := by simp [Fu.ts, Ex.ts_len, Y.ts_len]
def Fu.t (x : Fu) : T := .agg x.ts
def Fu.row (l : List Fu) : T := .row l.length 15 (l.flatMap Fu.ts)
theorem Fu.at {l : List Fu} {k : Nat} {x : Fu} (h : l[k]? = some x) : ((l.flatMap Fu.ts).drop (k * 15)).take 15 = x.ts := flat_at Fu.ts 15 Fu.ts_len h
def Fu.size : Fu → Nat
  | ⟨f_name, f_params, f_names, f_types, f_out, f_body⟩ => f_name.size + strSize f_params + strSize f_names + Y.sizes f_types + f_out.size + f_body.size + 1
def Fu.sizes (l : List Fu) : Nat := (l.map Fu.size).sum
theorem Fu.size_mem {x : Fu} {l : List Fu} (h : x ∈ l) : x.size ≤ Fu.sizes l := sum_mem' Fu.size h
theorem Fu.len_sizes (l : List Fu) : l.length ≤ Fu.sizes l := len_sum' Fu.size (fun x => by simp only [Fu.size]; omega) l
instance : Inhabited Fu := ⟨⟨⟨#[]⟩, [], [], [], default, default⟩⟩
structure Tr where
  name : ByteArray
  funcs : List Fu
def Tr.ts : Tr → List T
  | ⟨f_name, f_funcs⟩ => [.lit (.string f_name), Fu.row f_funcs]
theorem Tr.ts_len (x : Tr) : x.ts.length = 2 := by simp [Tr.ts]
def Tr.t (x : Tr) : T := .agg x.ts
def Tr.row (l : List Tr) : T := .row l.length 2 (l.flatMap Tr.ts)
theorem Tr.at {l : List Tr} {k : Nat} {x : Tr} (h : l[k]? = some x) : ((l.flatMap Tr.ts).drop (k * 2)).take 2 = x.ts := flat_at Tr.ts 2 Tr.ts_len h
def Tr.size : Tr → Nat
  | ⟨f_name, f_funcs⟩ => f_name.size + Fu.sizes f_funcs + 1
def Tr.sizes (l : List Tr) : Nat := (l.map Tr.size).sum
theorem Tr.size_mem {x : Tr} {l : List Tr} (h : x ∈ l) : x.size ≤ Tr.sizes l := sum_mem' Tr.size h
theorem Tr.len_sizes (l : List Tr) : l.length ≤ Tr.sizes l := len_sum' Tr.size (fun x => by simp only [Tr.size]; omega) l
instance : Inhabited Tr := ⟨⟨⟨#[]⟩, []⟩⟩
structure Im where
  trait : ByteArray
  dat : ByteArray
  funcs : List Fu
def Im.ts : Im → List T
  | ⟨f_trait, f_dat, f_funcs⟩ => [.lit (.string f_trait), .lit (.string f_dat), Fu.row f_funcs]
theorem Im.ts_len (x : Im) : x.ts.length = 3 := by simp [Im.ts]
def Im.t (x : Im) : T := .agg x.ts
def Im.row (l : List Im) : T := .row l.length 3 (l.flatMap Im.ts)
theorem Im.at {l : List Im} {k : Nat} {x : Im} (h : l[k]? = some x) : ((l.flatMap Im.ts).drop (k * 3)).take 3 = x.ts := flat_at Im.ts 3 Im.ts_len h
def Im.size : Im → Nat
  | ⟨f_trait, f_dat, f_funcs⟩ => f_trait.size + f_dat.size + Fu.sizes f_funcs + 1
def Im.sizes (l : List Im) : Nat := (l.map Im.size).sum
theorem Im.size_mem {x : Im} {l : List Im} (h : x ∈ l) : x.size ≤ Im.sizes l := sum_mem' Im.size h
theorem Im.len_sizes (l : List Im) : l.length ≤ Im.sizes l := len_sum' Im.size (fun x => by simp only [Im.size]; omega) l
instance : Inhabited Im := ⟨⟨⟨#[]⟩, ⟨#[]⟩, []⟩⟩
structure Ac where
  name : ByteArray
  names : List ByteArray
  types : List Y
  msg : Y
  body : Ex
def Ac.ts : Ac → List T
  | ⟨f_name, f_names, f_types, f_msg, f_body⟩ => [.lit (.string f_name), strRow f_names, Y.row f_types] ++ f_msg.ts ++ f_body.ts
theorem Ac.ts_len (x : Ac) : x.ts.length = 14 := by simp [Ac.ts, Ex.ts_len, Y.ts_len]
def Ac.t (x : Ac) : T := .agg x.ts
def Ac.row (l : List Ac) : T := .row l.length 14 (l.flatMap Ac.ts)
theorem Ac.at {l : List Ac} {k : Nat} {x : Ac} (h : l[k]? = some x) : ((l.flatMap Ac.ts).drop (k * 14)).take 14 = x.ts := flat_at Ac.ts 14 Ac.ts_len h
def Ac.size : Ac → Nat
  | ⟨f_name, f_names, f_types, f_msg, f_body⟩ => f_name.size + strSize f_names + Y.sizes f_types + f_msg.size + f_body.size + 1
def Ac.sizes (l : List Ac) : Nat := (l.map Ac.size).sum
theorem Ac.size_mem {x : Ac} {l : List Ac} (h : x ∈ l) : x.size ≤ Ac.sizes l := sum_mem' Ac.size h
theorem Ac.len_sizes (l : List Ac) : l.length ≤ Ac.sizes l := len_sum' Ac.size (fun x => by simp only [Ac.size]; omega) l
instance : Inhabited Ac := ⟨⟨⟨#[]⟩, [], [], default, default⟩⟩
structure Pr where
  name : ByteArray
  version : Int
  uses : List Us
  datas : List Da
  traits : List Tr
  impls : List Im
  funcs : List Fu
  actors : List Ac
def Pr.ts : Pr → List T
  | ⟨f_name, f_version, f_uses, f_datas, f_traits, f_impls, f_funcs, f_actors⟩ => [.lit (.string f_name), .lit (.int .i64 f_version), Us.row f_uses, Da.row f_datas, Tr.row f_traits, Im.row f_impls, Fu.row f_funcs, Ac.row f_actors]
theorem Pr.ts_len (x : Pr) : x.ts.length = 8 := by simp [Pr.ts]
def Pr.t (x : Pr) : T := .agg x.ts
def Pr.row (l : List Pr) : T := .row l.length 8 (l.flatMap Pr.ts)
theorem Pr.at {l : List Pr} {k : Nat} {x : Pr} (h : l[k]? = some x) : ((l.flatMap Pr.ts).drop (k * 8)).take 8 = x.ts := flat_at Pr.ts 8 Pr.ts_len h
def Pr.size : Pr → Nat
  | ⟨f_name, _, f_uses, f_datas, f_traits, f_impls, f_funcs, f_actors⟩ => f_name.size + Us.sizes f_uses + Da.sizes f_datas + Tr.sizes f_traits + Im.sizes f_impls + Fu.sizes f_funcs + Ac.sizes f_actors + 1
def Pr.sizes (l : List Pr) : Nat := (l.map Pr.size).sum
theorem Pr.size_mem {x : Pr} {l : List Pr} (h : x ∈ l) : x.size ≤ Pr.sizes l := sum_mem' Pr.size h
theorem Pr.len_sizes (l : List Pr) : l.length ≤ Pr.sizes l := len_sum' Pr.size (fun x => by simp only [Pr.size]; omega) l
instance : Inhabited Pr := ⟨⟨⟨#[]⟩, 0, [], [], [], [], [], []⟩⟩
end Go.Proofs.Ytnkafjkcjpajgaa
namespace Go.Proofs.Ytnkafjkcjpajgaa
/-- may the byte x stand at place i of a name? -/
def okN (i x : Nat) : Bool := decide (97 ≤ x ∧ x ≤ 122) || (decide (i ≠ 0) && (decide (x = 95) || decide (48 ≤ x ∧ x ≤ 57)))
def okTo (s : List UInt8) (k : Nat) : Prop := ∀ j (h : j < s.length), j < k → okN j (s[j]).toNat = true
/-- is it a name? -/
noncomputable def nameOk (s : List UInt8) : Bool := @decide (s ≠ [] ∧ s.length ≤ 16 ∧ okTo s s.length) (Classical.propDecidable _)
theorem nameOk_bad {s : List UInt8} {k : Nat} (h : k < s.length) (hb : okN k (s[k]).toNat = false) : nameOk s = false := by
  simp only [nameOk, decide_eq_false_iff_not]
  rintro ⟨_, _, h3⟩
  have := h3 k h h
  rw [hb] at this
  cases this
theorem nameOk_long {s : List UInt8} (h : 16 < s.length) : nameOk s = false := by
  simp only [nameOk, decide_eq_false_iff_not]
  omega
theorem nameOk_nil : nameOk [] = false := by simp [nameOk]
theorem nameOk_yes {s : List UInt8} (h0 : s ≠ []) (h1 : s.length ≤ 16) (h : okTo s s.length) : nameOk s = true := by
  simp only [nameOk, decide_eq_true_eq]
  exact ⟨h0, h1, h⟩
theorem okTo_succ {s : List UInt8} {k : Nat} (h : okTo s k) (hk : k < s.length) (hx : okN k (s[k]).toNat = true) : okTo s (k + 1) := by
  intro j hj hjk
  rcases Nat.lt_succ_iff_lt_or_eq.1 hjk with h' | h'
  · exact h j hj h'
  · subst h'; exact hx
theorem okTo_zero (s : List UInt8) : okTo s 0 := fun _ _ h => absurd h (by omega)
end Go.Proofs.Ytnkafjkcjpajgaa
