/-
  Texts of this proof, part 8: Ab45 Tkb Tkb2 Vla Vma Tkc Ir.
-/
import Derived.Test.YtnkafjkcjpajgaaQLockAnew7
import Derived.Lib.MinMax
namespace Go.Proofs.Ytnkafjkcjpajgaa
open Go.RowKit
section
variable {α β : Type}
def mapT (f : β → T) (l : List (α × β)) : List (α × T) := l.map fun p => (p.1, f p.2)
theorem mapT_len (f : β → T) (l : List (α × β)) : (mapT f l).length = l.length := List.length_map _
theorem mapT_keys (f : β → T) (l : List (α × β)) : (mapT f l).map (·.1) = l.map (·.1) := by simp [mapT, Function.comp_def]
end
section
variable {α β : Type} [DecidableEq α]
def gget (k : α) : List (α × β) → Option β
  | [] => none
  | (k', b) :: l => if k = k' then some b else gget k l
def gput (k : α) (b : β) : List (α × β) → List (α × β)
  | [] => [(k, b)]
  | (k', b') :: l => if k = k' then (k, b) :: l else (k', b') :: gput k b l
def gdel (k : α) : List (α × β) → List (α × β)
  | [] => []
  | (k', b) :: l => if k = k' then l else (k', b) :: gdel k l
theorem mget_T (f : β → T) (k : α) : ∀ l : List (α × β), mget k (mapT f l) = (gget k l).map f
  | [] => rfl
  | (k', b) :: l => by
    show (if k = k' then some (f b) else mget k (mapT f l)) = _
    rw [mget_T f k l, gget]
    split <;> rfl
theorem mput_T (f : β → T) (k : α) (b : β) : ∀ l : List (α × β), mput k (f b) (mapT f l) = mapT f (gput k b l)
  | [] => rfl
  | (k', b') :: l => by
    show (if k = k' then (k, f b) :: mapT f l else (k', f b') :: mput k (f b) (mapT f l)) = _
    rw [mput_T f k b l, gput]
    split <;> rfl
theorem mdel_T (f : β → T) (k : α) : ∀ l : List (α × β), mdel k (mapT f l) = mapT f (gdel k l)
  | [] => rfl
  | (k', b') :: l => by
    show (if k = k' then mapT f l else (k', f b') :: mdel k (mapT f l)) = _
    rw [mdel_T f k l, gdel]
    split <;> rfl
theorem gget_put (k k' : α) (b : β) : ∀ l : List (α × β), gget k (gput k' b l) = if k = k' then some b else gget k l
  | [] => by simp [gput, gget]
  | (k2, b2) :: l => by
    simp only [gput]
    by_cases h : k' = k2
    · subst h
      simp only [if_true, gget]
      split <;> rfl
    · simp only [if_neg h, gget, gget_put k k' b l]
      by_cases h2 : k = k2
      · subst h2
        simp [Ne.symm h]
      · simp [h2]
theorem gget_mem {k : α} : ∀ {l : List (α × β)}, (gget k l).isSome = true ↔ k ∈ l.map (·.1)
  | [] => by simp [gget]
  | (k', b) :: l => by
    simp only [gget, List.map_cons, List.mem_cons]
    by_cases h : k = k'
    · simp [h]
    · simp only [if_neg h, h, false_or]
      exact gget_mem
theorem gget_none {k : α} {l : List (α × β)} : gget k l = none ↔ k ∉ l.map (·.1) := by
  rw [← gget_mem]
  cases gget k l <;> simp
theorem gput_keys (k : α) (b : β) : ∀ l : List (α × β), (gput k b l).map (·.1) = if k ∈ l.map (·.1) then l.map (·.1) else l.map (·.1) ++ [k]
  | [] => by simp [gput]
  | (k', b') :: l => by
    rw [gput]
    by_cases h : k = k'
    · rw [if_pos h, if_pos (by rw [h]; simp)]
      simp [h]
    · rw [if_neg h, List.map_cons, gput_keys k b l]
      by_cases h2 : k ∈ l.map (·.1)
      · rw [if_pos h2, if_pos (by rw [List.map_cons]; exact List.mem_cons_of_mem _ h2)]
        rfl
      · rw [if_neg h2, if_neg (by rw [List.map_cons, List.mem_cons]; exact fun h3 => h3.elim h h2)]
        rfl
theorem gput_nodup {k : α} {b : β} {l : List (α × β)} (h : (l.map (·.1)).Nodup) : ((gput k b l).map (·.1)).Nodup := by
  rw [gput_keys]
  split
  · exact h
  · next hk =>
    rw [List.nodup_append]
    refine ⟨h, by simp, fun a ha b hb => ?_⟩
    rw [List.mem_singleton.1 hb]
    intro he; rw [he] at ha; exact hk ha
end
section
variable {P : Program} {F : Frm} {L : Tab} {d : Option Tmp} {ty : TypeId} {pos : String} {aft : Array Edge} {g : Option (Nat × Bool)} {ρ : Operand → AV} {hp : List Blk} {K : AV → List Blk → Prop} {α : Type} [DecidableEq α] {κ : α → Value} {dk : TypeDesc} {te : TI} {x y : Operand} {i b : Nat} {o : Option (List Nat × Nat)}
theorem lo_lookup_aggn (hκ : KeyIs dk κ) (hL : TabOk P L) {xT kT eT : TypeId} {l : List (α × T)} {k : α} (hu : P.underlying xT = some (.map kT eT)) (hk : P.underlying kT = some dk) (hte : L.look eT = some te) (ha : te.agg = true) (hx : ρ x = .own i (.map (some b))) (hi : hp[i]? = some (.mpx b (mkeys κ l) o)) (hy : ρ y = .c (.lit (κ k)))
    (h : K (.c ((mget k l).getD (.agg (te.zero.map fun v => T.lit v)))) hp) : LO P F ⟨d, .lookup xT x y false, ty, pos, aft, g⟩ ρ hp K := by
  refine LO.same (fun M e w he hh => ?_) h
  have h1 := he x (by first | (simp [Op.operands]; done) | simp [Op.operands, Call.operands])
  rw [hx] at h1
  simp only [RA] at h1
  have h2 := he y (by first | (simp [Op.operands]; done) | simp [Op.operands, Call.operands])
  rw [hy] at h2
  simp only [RA, RT] at h2
  obtain ⟨es, clock, hb, hkeys, hvals, -, -⟩ := hh.at_ i _ hi
  have hkeys' : es.map (·.key) = l.map (fun p => κ p.1) := by rw [hkeys]; simp [mkeys]
  have hvals' : RTs M (l.map (·.2)) (es.map (·.val)) := by simpa [mkeys, Function.comp_def] using hvals
  rcases find_keys hκ k l es 0 hkeys' with ⟨f1, f2, _⟩ | ⟨j, e', t, f1, f2, f3, f4, _⟩
  · obtain ⟨inf, zv, g1, _, _, g2, g3, g4, g5⟩ := hL.info hte
    rw [ha] at g5
    obtain ⟨a, rfl⟩ : ∃ a, zv = .agg a := by cases zv <;> simp_all
    have hza : a.toList = te.zero := g3
    have hzr : (zeroValue eT).run P w = .ok (.agg a) w := by simp [zeroValue, typeInfo, g1, g2]
    refine ⟨.agg a, ?_, by rw [f2]; simp only [Option.getD_none, RA, RT]; exact ⟨te.zero, by rw [← hza], lits_rts M te.zero⟩⟩
    simp [execOp, Instr.lookup, h1.1, h2, run_underlying hu, MapKept.run_getObj_map hb, MapKept.run_checkKey hk (hκ.is k), MapKept.run_findKey hk f1, hzr]
  · obtain ⟨u, hu1, hu2⟩ := hvals'.get (j := j) (t := t) (by rw [List.getElem?_map, f3]; rfl)
    rw [List.getElem?_map, f2] at hu1
    obtain rfl : e'.val = u := by simpa using hu1
    refine ⟨e'.val, ?_, by rw [f4]; simpa only [Option.getD_some, RA] using hu2⟩
    simp [execOp, Instr.lookup, h1.1, h2, run_underlying hu, MapKept.run_getObj_map hb, MapKept.run_checkKey hk (hκ.is k), MapKept.run_findKey hk f1]
end
section
variable {P : Program} {F : Frm} {L : Tab} {d : Option Tmp} {ty : TypeId} {pos : String} {aft : Array Edge} {g : Option (Nat × Bool)} {ρ : Operand → AV} {hp : List Blk} {K : AV → List Blk → Prop} {te : TI} {x y : Operand} {i b : Nat} {o : Option (List Nat × Nat)} {xT : TypeId}
theorem zLksn (kT eT : TypeId) {s : ByteArray} {l : List (ByteArray × T)} {zs : List T} {t : T} (ht : (mget s l).getD (.agg zs) = t) (h : K (.c t) hp) (hL : TabOk P L := by exact tok) (hu : isMap P xT = some (kT, eT) := by kernel_rfl) (hk : P.underlying kT = some .string := by kernel_rfl) (hte : L.look eT = some te := by exact rfl) (hz : te.zero.map (fun v => T.lit v) = zs := by exact rfl) (ha : te.agg = true := by exact rfl) (hx : ρ x = .own i (.map (some b)) := by exact rfl) (hi : hp[i]? = some (.mpx b (mkeys Value.string l) o) := by exact rfl) (hy : ρ y = .c (.lit (.string s)) := by exact rfl) :
    LO P F ⟨d, .lookup xT x y false, ty, pos, aft, g⟩ ρ hp K := lo_lookup_aggn keyStr hL (isMap_eq hu) hk hte ha hx hi hy (by rw [hz, ht]; exact h)
/-- an entry is written, the map told anew -/
theorem zUpt (kT eT : TypeId) {y z : Operand} {s : ByteArray} {l l' : List (ByteArray × T)} {t : T} {hp' : List Blk} (hl : mput s t l = l') (h : K (.c (.lit undef)) hp') (hu : isMap P xT = some (kT, eT) := by kernel_rfl) (hk : P.underlying kT = some .string := by kernel_rfl) (hx : ρ x = .own i (.map (some b)) := by exact rfl) (hi : hp[i]? = some (.mp b (mkeys Value.string l)) := by exact rfl) (hy : ρ y = .c (.lit (.string s)) := by exact rfl) (hz : Rzs [] [ρ z] [t] := by repeat (first | exact rzs_nil | apply rzs_cons | exact rz_c | exact rz_nil rfl | apply rz_agg | apply rz_fn | apply rz_tup)) (hf : evl (hp.set i (.mp b (mkeys Value.string l'))) = some hp' := by exact rfl) :
    LO P F ⟨d, .mapUpdate xT x y z, ty, pos, aft, g⟩ ρ hp K := lo_mapUpdate keyStr (isMap_eq hu) hk hx hi hy (fun M u h => by have := re_cls hz M u h; simpa only [RA] using this) (.inl rfl) (by rw [hl, ← evl_eq hf] at *; exact h)
theorem zDelt (kT eT : TypeId) {tk : TypeId} {y : Operand} {s : ByteArray} {l l' : List (ByteArray × T)} {hp' : List Blk} (hl : mdel s l = l') (h : K (.c (.tup [])) hp') (hu : isMap P xT = some (kT, eT) := by kernel_rfl) (hk : P.underlying kT = some .string := by kernel_rfl) (hx : ρ x = .own i (.map (some b)) := by exact rfl) (hi : hp[i]? = some (.mp b (mkeys Value.string l)) := by exact rfl) (hy : ρ y = .c (.lit (.string s)) := by exact rfl) (hf : evl (hp.set i (.mp b (mkeys Value.string l'))) = some hp' := by exact rfl) :
    LO P F ⟨d, .call { callee := .builtin .delete, args := #[x, y], argTypes := #[xT, tk] }, ty, pos, aft, g⟩ ρ hp K := zDels kT eT (hp' := hp') (l := l) h hu hk hx hi hy (by rw [hl]; exact hf)
end
end Go.Proofs.Ytnkafjkcjpajgaa
namespace Go.Proofs.Ytnkafjkcjpajgaa
open Go.RowKit
theorem byt_at {l : List UInt8} {k : Nat} {a : UInt8} (h : l[k]? = some a) : (byts l)[k * 1]? = some (bytT a) := by simp [byts, h]
theorem okTo_at {l : List UInt8} {k : Nat} {b : UInt8} (hb : l[k]? = some b) (h : okTo l k) (hx : okN k b.toNat = true) : okTo l (k + 1) := by
  obtain ⟨h1, rfl⟩ := List.getElem?_eq_some_iff.1 hb
  exact okTo_succ h h1 hx
theorem nameOk_at {l : List UInt8} {k : Nat} {b : UInt8} (hb : l[k]? = some b) (hx : okN k b.toNat = false) : nameOk l = false := by
  obtain ⟨h1, rfl⟩ := List.getElem?_eq_some_iff.1 hb
  exact nameOk_bad h1 hx
set_option maxRecDepth 100000 in
set_option maxHeartbeats 4000000 in
theorem name_af (l : List UInt8) (hl : l.length ≤ 1048576) : AF Try.prog 87 [.lit (.string (bs l))] (· = .lit (.bool (nameOk l))) := by
  have hsz := bs_size' l
  refine af_enter tok Try.func87 Try.ntmps87 Try.results87 rfl (by kernel_rfl) rfl rfl fun F hX => ?_
  repeat (first | refine gG ?_ | refine zN1 (fun hlen => ?_) | refine zN2 (fun hlen => ?_))
  refine x_loop [2, 3, 4, 5, 8, 9, 10, 11, 12, 13, 14, 15, 16, 17, 18, 19, 20, 21, 22, 23, 24, 25, 26, 27, 28, 29, 30, 31, 32, 33, 34, 35, 36, 37, 38] (fun k : Nat => [(8, .c (.lit (.int .i64 (k : Nat))))]) (fun _ => []) (fun k => k ≤ l.length ∧ okTo l k) (fun k => l.length - k) 0 ⟨Nat.zero_le _, okTo_zero l⟩ ⟨rfl, trivial⟩ rfl ?_
  rintro k ⟨hk, hok⟩
  repeat (first | refine gG ?_ | refine zN1 (fun hlen => ?_) | refine zN2 (fun hlen => ?_))
  refine x_cond rfl (fun h => ?_) (fun h => ?_)
  · have hk' : k < l.length := by rw [hsz] at h; simpa using h
    obtain ⟨b, hb⟩ := nth hk'
    have hy := fun h => okTo_at hb hok h
    have hn := fun h => nameOk_at (k := k) hb h
    repeat (first | refine gG ?_ | refine zN1 (fun hlen => ?_) | refine zN2 (fun hlen => ?_))
    refine zSix k hb ?_
    clear hb hok
    have hxx : okN k b.toNat = (decide (97 ≤ b.toNat ∧ b.toNat ≤ 122) || (decide (k ≠ 0) && (decide (b.toNat = 95) || decide (48 ≤ b.toNat ∧ b.toNat ≤ 57)))) := rfl
    generalize okN k b.toNat = okk at *
    generalize b.toNat = x at *
    cases d1 : decide ((97 : Int) ≤ (x : Int))
    · cases d3 : decide ((k : Int) = 0)
      · cases d4 : decide ((x : Int) = 95)
        · cases d5 : decide ((x : Int) < 48)
          · cases d6 : decide ((57 : Int) < (x : Int))
            · repeat (first | refine gG ?_ | refine zN1 (fun hlen => ?_) | refine zN2 (fun hlen => ?_))
              exact ⟨k + 1, ⟨hk', hy (by rw [hxx]; simp at d1 d3 d4 d5 d6; simp; omega)⟩, by omega, x_wkd 0 ⟨rfl, trivial⟩ rfl (by repeat (first | exact ag_refl | refine ag_upd rfl ?_ | refine ag_at rfl rfl ?_))⟩
            · repeat (first | refine gG ?_ | refine zN1 (fun hlen => ?_) | refine zN2 (fun hlen => ?_))
              first | refine zR ?_ | refine zQ ?_
              rw [hn (by rw [hxx]; simp at d1 d3 d4 d5 d6; simp; omega)]
              rfl
          · repeat (first | refine gG ?_ | refine zN1 (fun hlen => ?_) | refine zN2 (fun hlen => ?_))
            first | refine zR ?_ | refine zQ ?_
            rw [hn (by rw [hxx]; simp at d1 d3 d4 d5; simp; omega)]
            rfl
        · repeat (first | refine gG ?_ | refine zN1 (fun hlen => ?_) | refine zN2 (fun hlen => ?_))
          exact ⟨k + 1, ⟨hk', hy (by rw [hxx]; simp at d1 d3 d4; simp; omega)⟩, by omega, x_wkd 0 ⟨rfl, trivial⟩ rfl (by repeat (first | exact ag_refl | refine ag_upd rfl ?_ | refine ag_at rfl rfl ?_))⟩
      · repeat (first | refine gG ?_ | refine zN1 (fun hlen => ?_) | refine zN2 (fun hlen => ?_))
        first | refine zR ?_ | refine zQ ?_
        rw [hn (by rw [hxx]; simp at d1 d3; simp; omega)]
        rfl
    · cases d2 : decide ((x : Int) ≤ 122)
      · cases d3 : decide ((k : Int) = 0)
        · cases d4 : decide ((x : Int) = 95)
          · cases d5 : decide ((x : Int) < 48)
            · cases d6 : decide ((57 : Int) < (x : Int))
              · repeat (first | refine gG ?_ | refine zN1 (fun hlen => ?_) | refine zN2 (fun hlen => ?_))
                exact ⟨k + 1, ⟨hk', hy (by rw [hxx]; simp at d1 d2 d3 d4 d5 d6; simp; omega)⟩, by omega, x_wkd 0 ⟨rfl, trivial⟩ rfl (by repeat (first | exact ag_refl | refine ag_upd rfl ?_ | refine ag_at rfl rfl ?_))⟩
              · repeat (first | refine gG ?_ | refine zN1 (fun hlen => ?_) | refine zN2 (fun hlen => ?_))
                first | refine zR ?_ | refine zQ ?_
                rw [hn (by rw [hxx]; simp at d1 d2 d3 d4 d5 d6; simp; omega)]
                rfl
            · repeat (first | refine gG ?_ | refine zN1 (fun hlen => ?_) | refine zN2 (fun hlen => ?_))
              first | refine zR ?_ | refine zQ ?_
              rw [hn (by rw [hxx]; simp at d1 d2 d3 d4 d5; simp; omega)]
              rfl
          · repeat (first | refine gG ?_ | refine zN1 (fun hlen => ?_) | refine zN2 (fun hlen => ?_))
            exact ⟨k + 1, ⟨hk', hy (by rw [hxx]; simp at d1 d2 d3 d4; simp; omega)⟩, by omega, x_wkd 0 ⟨rfl, trivial⟩ rfl (by repeat (first | exact ag_refl | refine ag_upd rfl ?_ | refine ag_at rfl rfl ?_))⟩
        · repeat (first | refine gG ?_ | refine zN1 (fun hlen => ?_) | refine zN2 (fun hlen => ?_))
          first | refine zR ?_ | refine zQ ?_
          rw [hn (by rw [hxx]; simp at d1 d2 d3; simp; omega)]
          rfl
      · repeat (first | refine gG ?_ | refine zN1 (fun hlen => ?_) | refine zN2 (fun hlen => ?_))
        exact ⟨k + 1, ⟨hk', hy (by rw [hxx]; simp at d1 d2; simp; omega)⟩, by omega, x_wkd 0 ⟨rfl, trivial⟩ rfl (by repeat (first | exact ag_refl | refine ag_upd rfl ?_ | refine ag_at rfl rfl ?_))⟩
  · have hk' : k = l.length := by rw [hsz] at h; have : ¬ k < l.length := by simpa using h
                                  omega
    subst hk'
    cases d1 : decide (bs l = (⟨#[]⟩ : ByteArray))
    · cases d2 : decide (((bs l).size : Int) ≤ 16)
      · repeat (first | refine gG ?_ | refine zN1 (fun hlen => ?_) | refine zN2 (fun hlen => ?_))
        first | refine zR ?_ | refine zQ ?_
        rw [nameOk_long (by have := of_decide_eq_false d2; omega), d2]
        rfl
      · repeat (first | refine gG ?_ | refine zN1 (fun hlen => ?_) | refine zN2 (fun hlen => ?_))
        first | refine zR ?_ | refine zQ ?_
        have h0 : l ≠ [] := by
          rintro rfl
          exact absurd rfl (of_decide_eq_false d1)
        rw [nameOk_yes h0 (by have := of_decide_eq_true d2; omega) hok, d2]
        rfl
    · repeat (first | refine gG ?_ | refine zN1 (fun hlen => ?_) | refine zN2 (fun hlen => ?_))
      first | refine zR ?_ | refine zQ ?_
      have h0 : l = [] := by
        have := congrArg (fun s => s.data.toList) (of_decide_eq_true d1)
        exact this
      rw [h0, nameOk_nil]
      rfl
end Go.Proofs.Ytnkafjkcjpajgaa
namespace Go.Proofs.Ytnkafjkcjpajgaa
open Go.RowKit
set_option maxRecDepth 100000 in
set_option maxHeartbeats 4000000 in
theorem moduleName_af (l : List UInt8) (hl : l.length ≤ 1048576) : AF Try.prog 91 [.lit (.string (bs l))] (· = .lit (.bool (nameOk l))) := by
  have hsz := bs_size' l
  refine af_enter tok Try.func91 Try.ntmps91 Try.results91 rfl (by kernel_rfl) rfl rfl fun F hX => ?_
  cases d1 : decide (bs l = (⟨#[]⟩ : ByteArray))
  rotate_left
  · repeat (first | refine gG ?_ | refine zN1 (fun hlen => ?_) | refine zN2 (fun hlen => ?_))
    first | refine zR ?_ | refine zQ ?_
    have h0 : l = [] := by
      have := congrArg (fun s => s.data.toList) (of_decide_eq_true d1)
      exact this
    rw [h0, nameOk_nil]
    rfl
  cases d2 : decide ((16 : Int) < ((bs l).size : Int))
  rotate_left
  · repeat (first | refine gG ?_ | refine zN1 (fun hlen => ?_) | refine zN2 (fun hlen => ?_))
    first | refine zR ?_ | refine zQ ?_
    rw [nameOk_long (by have := of_decide_eq_true d2; omega)]
    rfl
  have h0 : l ≠ [] := by
    rintro rfl
    exact absurd rfl (of_decide_eq_false d1)
  have h16 : l.length ≤ 16 := by have := of_decide_eq_false d2; omega
  repeat (first | refine gG ?_ | refine zN1 (fun hlen => ?_) | refine zN2 (fun hlen => ?_))
  clear d1 d2
  refine zByt (by rw [hsz]; simp only [maxLen]; omega) ?_
  rw [show (bs l).data.toList = l from rfl]
  repeat (first | refine gG ?_ | refine zN1 (fun hlen => ?_) | refine zN2 (fun hlen => ?_))
  refine x_loop [2, 3, 4, 5, 16, 17, 18, 19, 20, 21, 22, 23, 24, 25, 26, 27, 28, 29, 30, 31, 32, 33, 34, 35, 36, 37, 38, 39, 40, 41, 42, 43, 44, 45] (fun k : Nat => [(16, .c (.lit (.int .i64 (k : Nat))))]) (fun _ => []) (fun k => k ≤ l.length ∧ okTo l k) (fun k => l.length - k) 0 ⟨Nat.zero_le _, okTo_zero l⟩ ⟨rfl, trivial⟩ rfl ?_
  rintro k ⟨hk, hok⟩
  repeat (first | refine gG ?_ | refine zN1 (fun hlen => ?_) | refine zN2 (fun hlen => ?_))
  refine x_cond rfl (fun h => ?_) (fun h => ?_)
  · have hk' : k < l.length := by simpa using h
    obtain ⟨b, hb⟩ := nth hk'
    have hy := fun h => okTo_at hb hok h
    have hn := fun h => nameOk_at (k := k) hb h
    repeat (first | refine gG ?_ | refine zN1 (fun hlen => ?_) | refine zN2 (fun hlen => ?_))
    refine zIx k hk' ?_
    repeat (first | refine gG ?_ | refine zN1 (fun hlen => ?_) | refine zN2 (fun hlen => ?_))
    refine zEl1 (v := .lit (.int .u8 (b.toNat : Int))) (byt_at hb) ?_
    clear hb hok
    have hxx : okN k b.toNat = (decide (97 ≤ b.toNat ∧ b.toNat ≤ 122) || (decide (k ≠ 0) && (decide (b.toNat = 95) || decide (48 ≤ b.toNat ∧ b.toNat ≤ 57)))) := rfl
    generalize okN k b.toNat = okk at *
    generalize b.toNat = x at *
    cases d1 : decide ((97 : Int) ≤ (x : Int))
    · cases d3 : decide ((k : Int) = 0)
      · cases d4 : decide ((x : Int) = 95)
        · cases d5 : decide ((x : Int) < 48)
          · cases d6 : decide ((57 : Int) < (x : Int))
            · repeat (first | refine gG ?_ | refine zN1 (fun hlen => ?_) | refine zN2 (fun hlen => ?_))
              exact ⟨k + 1, ⟨hk', hy (by rw [hxx]; simp at d1 d3 d4 d5 d6; simp; omega)⟩, by omega, x_wkd 0 ⟨rfl, trivial⟩ rfl (by repeat (first | exact ag_refl | refine ag_upd rfl ?_ | refine ag_at rfl rfl ?_))⟩
            · repeat (first | refine gG ?_ | refine zN1 (fun hlen => ?_) | refine zN2 (fun hlen => ?_))
              first | refine zR ?_ | refine zQ ?_
              rw [hn (by rw [hxx]; simp at d1 d3 d4 d5 d6; simp; omega)]
              rfl
          · repeat (first | refine gG ?_ | refine zN1 (fun hlen => ?_) | refine zN2 (fun hlen => ?_))
            first | refine zR ?_ | refine zQ ?_
            rw [hn (by rw [hxx]; simp at d1 d3 d4 d5; simp; omega)]
            rfl
        · repeat (first | refine gG ?_ | refine zN1 (fun hlen => ?_) | refine zN2 (fun hlen => ?_))
          exact ⟨k + 1, ⟨hk', hy (by rw [hxx]; simp at d1 d3 d4; simp; omega)⟩, by omega, x_wkd 0 ⟨rfl, trivial⟩ rfl (by repeat (first | exact ag_refl | refine ag_upd rfl ?_ | refine ag_at rfl rfl ?_))⟩
      · repeat (first | refine gG ?_ | refine zN1 (fun hlen => ?_) | refine zN2 (fun hlen => ?_))
        first | refine zR ?_ | refine zQ ?_
        rw [hn (by rw [hxx]; simp at d1 d3; simp; omega)]
        rfl
    · cases d2 : decide ((x : Int) ≤ 122)
      · cases d3 : decide ((k : Int) = 0)
        · cases d4 : decide ((x : Int) = 95)
          · cases d5 : decide ((x : Int) < 48)
            · cases d6 : decide ((57 : Int) < (x : Int))
              · repeat (first | refine gG ?_ | refine zN1 (fun hlen => ?_) | refine zN2 (fun hlen => ?_))
                exact ⟨k + 1, ⟨hk', hy (by rw [hxx]; simp at d1 d2 d3 d4 d5 d6; simp; omega)⟩, by omega, x_wkd 0 ⟨rfl, trivial⟩ rfl (by repeat (first | exact ag_refl | refine ag_upd rfl ?_ | refine ag_at rfl rfl ?_))⟩
              · repeat (first | refine gG ?_ | refine zN1 (fun hlen => ?_) | refine zN2 (fun hlen => ?_))
                first | refine zR ?_ | refine zQ ?_
                rw [hn (by rw [hxx]; simp at d1 d2 d3 d4 d5 d6; simp; omega)]
                rfl
            · repeat (first | refine gG ?_ | refine zN1 (fun hlen => ?_) | refine zN2 (fun hlen => ?_))
              first | refine zR ?_ | refine zQ ?_
              rw [hn (by rw [hxx]; simp at d1 d2 d3 d4 d5; simp; omega)]
              rfl
          · repeat (first | refine gG ?_ | refine zN1 (fun hlen => ?_) | refine zN2 (fun hlen => ?_))
            exact ⟨k + 1, ⟨hk', hy (by rw [hxx]; simp at d1 d2 d3 d4; simp; omega)⟩, by omega, x_wkd 0 ⟨rfl, trivial⟩ rfl (by repeat (first | exact ag_refl | refine ag_upd rfl ?_ | refine ag_at rfl rfl ?_))⟩
        · repeat (first | refine gG ?_ | refine zN1 (fun hlen => ?_) | refine zN2 (fun hlen => ?_))
          first | refine zR ?_ | refine zQ ?_
          rw [hn (by rw [hxx]; simp at d1 d2 d3; simp; omega)]
          rfl
      · repeat (first | refine gG ?_ | refine zN1 (fun hlen => ?_) | refine zN2 (fun hlen => ?_))
        exact ⟨k + 1, ⟨hk', hy (by rw [hxx]; simp at d1 d2; simp; omega)⟩, by omega, x_wkd 0 ⟨rfl, trivial⟩ rfl (by repeat (first | exact ag_refl | refine ag_upd rfl ?_ | refine ag_at rfl rfl ?_))⟩
  · have hk' : k = l.length := by have : ¬ k < l.length := by simpa using h
                                  omega
    subst hk'
    repeat (first | refine gG ?_ | refine zN1 (fun hlen => ?_) | refine zN2 (fun hlen => ?_))
    first | refine zR ?_ | refine zQ ?_
    rw [nameOk_yes h0 h16 hok]
    rfl
end Go.Proofs.Ytnkafjkcjpajgaa
namespace Go.Proofs.Ytnkafjkcjpajgaa
open Go.RowKit
def ordK : Option Pk → Pk → Bool
  | none, _ => true
  | some q, p => !leB p.name q.name
noncomputable def lockAt (prev : Option Pk) : List Pk → Int
  | [] => 0
  | p :: r => bif nameOk p.name.data.toList then (bif decide (p.version < 1) || decide (9999 < p.version) then 1 else (bif ordK prev p then lockAt (some p) r else 21)) else 11
noncomputable def lockF (l : List Pk) : Int := bif decide (30 < (l.length : Int)) then 2 else lockAt none l
theorem lockAt_step {l : List Pk} {k : Nat} {p : Pk} (h : l[k]? = some p) : lockAt (prevAt l k) (l.drop k) = bif nameOk p.name.data.toList then (bif decide (p.version < 1) || decide (9999 < p.version) then 1 else (bif ordK (prevAt l k) p then lockAt (prevAt l (k + 1)) (l.drop (k + 1)) else 21)) else 11 := by
  rw [prevAt_succ h]
  obtain ⟨h1, rfl⟩ := List.getElem?_eq_some_iff.1 h
  rw [List.drop_eq_getElem_cons h1, lockAt]
def Asc (l : List Pk) : Prop := l.Pairwise fun a b => strLt a.name b.name = true
theorem lockAt_ok : ∀ {l : List Pk} {p : Option Pk}, lockAt p l = 0 → (∀ q ∈ l, nameOk q.name.data.toList = true ∧ 1 ≤ q.version ∧ q.version ≤ 9999) ∧ Asc l ∧ ∀ a ∈ p, ∀ q ∈ l, strLt a.name q.name = true
  | [], _, _ => ⟨(fun _ h => by cases h), List.Pairwise.nil, fun _ _ _ h => by cases h⟩
  | p :: r, o, h => by
    rw [lockAt] at h
    cases h1 : nameOk p.name.data.toList
    · rw [h1] at h; cases h
    · rw [h1, cond_true] at h
      cases h2 : decide (p.version < 1) || decide (9999 < p.version)
      · rw [h2, cond_false] at h
        cases h3 : ordK o p
        · rw [h3] at h; cases h
        · rw [h3, cond_true] at h
          obtain ⟨i1, i2, i3⟩ := lockAt_ok h
          have h4 := i3 p rfl
          simp only [Bool.or_eq_false_iff, decide_eq_false_iff_not] at h2
          refine ⟨fun q hq => ?_, .cons h4 i2, fun a ha q hq => ?_⟩
          · rcases List.mem_cons.1 hq with rfl | hq
            · exact ⟨h1, by omega, by omega⟩
            · exact i1 q hq
          · cases ha
            have h5 : strLt a.name p.name = true := leB_false (by simpa [ordK] using h3)
            rcases List.mem_cons.1 hq with rfl | hq
            · exact h5
            · exact strLt_trans h5 (h4 q hq)
      · rw [h2] at h; cases h
theorem nameOk_size {s : List UInt8} (h : nameOk s = true) : s.length ≤ 16 := by
  rcases Nat.lt_or_ge 16 s.length with h1 | h1
  · rw [nameOk_long h1] at h; cases h
  · exact h1
theorem nameOk_ne {s : ByteArray} (h : nameOk s.data.toList = true) : s ≠ ⟨#[]⟩ := fun e => by
  rw [e] at h
  rw [show ((⟨#[]⟩ : ByteArray).data.toList) = [] from rfl, nameOk_nil] at h
  cases h
structure Lk (l : List Pk) : Prop where
  len : l.length ≤ 30
  name : ∀ q ∈ l, nameOk q.name.data.toList = true
  ver : ∀ q ∈ l, 1 ≤ q.version ∧ q.version ≤ 9999
  asc : Asc l
theorem lockF_ok {l : List Pk} (h : lockF l = 0) : Lk l := by
  unfold lockF at h
  cases d : decide (30 < (l.length : Int))
  · rw [d, cond_false] at h
    have := of_decide_eq_false d
    obtain ⟨h1, h2, -⟩ := lockAt_ok h
    exact ⟨by omega, fun q hq => (h1 q hq).1, fun q hq => (h1 q hq).2, h2⟩
  · rw [d] at h; cases h
theorem Asc.names {l : List Pk} (h : Asc l) : (l.map Pk.name).Nodup := by
  refine List.pairwise_map.2 (h.imp fun {a b} h1 e => ?_)
  rw [e, strLt_irrefl] at h1
  cases h1
/-- the reference holds each name against the last one, the empty text ahead of the first -/
theorem ord_last {l : List Pk} {k : Nat} {p : Pk} (hn : nameOk p.name.data.toList = true) : leB p.name (lastOf l k) = !ordK (prevAt l k) p := by
  unfold lastOf
  cases prevAt l k with
  | none =>
    show leB p.name ⟨#[]⟩ = !true
    rw [leB_nil, decide_eq_false (nameOk_ne hn)]
    rfl
  | some q =>
    show leB p.name q.name = !!leB p.name q.name
    rw [Bool.not_not]
structure Tn where
  name : ByteArray
  old : Int
  new : Int
def Tn.ts : Tn → List T
  | ⟨n, o, w⟩ => [.lit (.string n), .lit (.int .i64 o), .lit (.int .i64 w)]
theorem Tn.ts_len (x : Tn) : x.ts.length = 3 := rfl
def Tn.t (x : Tn) : T := .agg x.ts
def Tn.row (l : List Tn) : T := .row l.length 3 (l.flatMap Tn.ts)
theorem Tn.at {l : List Tn} {k : Nat} {x : Tn} (h : l[k]? = some x) : ((l.flatMap Tn.ts).drop (k * 3)).take 3 = x.ts := flat_at Tn.ts 3 Tn.ts_len h
/-- maps of numbers -/
def iT (i : Int) : T := .lit (.int .i64 i)
end Go.Proofs.Ytnkafjkcjpajgaa
namespace Go.Proofs.Ytnkafjkcjpajgaa
open Go.RowKit
theorem gput_new {α β : Type} [DecidableEq α] {k : α} {b : β} : ∀ {l : List (α × β)}, k ∉ l.map (·.1) → gput k b l = l ++ [(k, b)]
  | [], _ => rfl
  | (k', b') :: l, h => by
    rw [List.map_cons, List.mem_cons] at h
    rw [gput, if_neg (fun e => h (.inl e)), gput_new fun h2 => h (.inr h2)]
    rfl
theorem gdel_new {α β : Type} [DecidableEq α] {k : α} {b : β} : ∀ {l : List (α × β)}, k ∉ l.map (·.1) → gdel k (l ++ [(k, b)]) = l
  | [], _ => by simp [gdel]
  | (k', b') :: l, h => by
    rw [List.map_cons, List.mem_cons] at h
    rw [List.cons_append, gdel, if_neg (fun e => h (.inl e)), gdel_new fun h2 => h (.inr h2)]
theorem gget_app {α β : Type} [DecidableEq α] {k k' : α} {b : β} : ∀ {l : List (α × β)}, k' ∉ l.map (·.1) → gget k (l ++ [(k', b)]) = if k = k' then some b else gget k l
  | [], _ => rfl
  | (k2, b2) :: l, h => by
    rw [List.map_cons, List.mem_cons] at h
    rw [List.cons_append, gget, gget, gget_app fun h2 => h (.inr h2)]
    by_cases h1 : k = k2
    · rw [if_pos h1, if_pos h1, if_neg]
      intro h3; exact h (.inl (h3.symm.trans h1))
    · rw [if_neg h1, if_neg h1]
abbrev PM := List (ByteArray × Md)
def wantsP (root : List Us) (P : PM) : List Us := root ++ P.flatMap (fun p => p.2.uses)
theorem wants_new (root : List Us) (P : PM) (n : ByteArray) (m : Md) : wantsP root (P ++ [(n, m)]) = wantsP root P ++ m.uses := by simp [wantsP]
def inV (u : Us) (v : Int) : Bool := !(decide (v < u.low) || decide (u.high < v))
def okW (P : PM) (u : Us) : Bool := match gget u.name P with | none => true | some m => inV u m.version
def satP (W : List Us) (P : PM) : Bool := W.all (okW P)
def openStep (P : PM) (o : Option ByteArray) (u : Us) : Option ByteArray :=
  bif (gget u.name P).isSome then o else match o with | none => some u.name | some n => bif strLt u.name n then some u.name else some n
def openP (P : PM) (W : List Us) : Option ByteArray := W.foldl (openStep P) none
def likedB (fs : List Pk) (m : Md) : Bool := fs.any fun p => decide (p.name = m.name) && decide (p.version = m.version)
def nameB (n : ByteArray) (m : Md) : Bool := decide (m.name = n)
def prefL (fs : List Pk) (n : ByteArray) (r : List Md) : List Md := r.filter fun m => nameB n m && likedB fs m
def otherL (fs : List Pk) (n : ByteArray) (r : List Md) : List Md := r.filter fun m => nameB n m && !likedB fs m
def cand (l : List Md) (fs : List Pk) (n : ByteArray) : List Md := prefL fs n l.reverse ++ otherL fs n l.reverse
def compl (l : List Md) (fs : List Pk) (root : List Us) : Nat → PM → Option PM
  | 0, _ => none
  | k + 1, P => match openP P (wantsP root P) with
    | none => some P
    | some n => (cand l fs n).findSome? fun m => bif satP (wantsP root (P ++ [(n, m)])) (P ++ [(n, m)]) then compl l fs root k (P ++ [(n, m)]) else none
theorem cand_mem {l : List Md} {fs : List Pk} {n : ByteArray} {m : Md} (h : m ∈ cand l fs n) : m ∈ l ∧ m.name = n := by
  unfold cand prefL otherL at h
  rcases List.mem_append.1 h with h | h
  · obtain ⟨h1, h2⟩ := List.mem_filter.1 h
    simp only [Bool.and_eq_true, nameB, decide_eq_true_eq] at h2
    exact ⟨List.mem_reverse.1 h1, h2.1⟩
  · obtain ⟨h1, h2⟩ := List.mem_filter.1 h
    simp only [Bool.and_eq_true, nameB, decide_eq_true_eq] at h2
    exact ⟨List.mem_reverse.1 h1, h2.1⟩
theorem cand_len (l : List Md) (fs : List Pk) (n : ByteArray) : (cand l fs n).length ≤ 2 * l.length := by
  unfold cand prefL otherL
  rw [List.length_append]
  have h1 := List.length_filter_le (fun m => nameB n m && likedB fs m) l.reverse
  have h2 := List.length_filter_le (fun m => nameB n m && !likedB fs m) l.reverse
  rw [List.length_reverse] at h1 h2
  omega
/-- a selection so far -/
structure VP (l : List Md) (P : PM) : Prop where
  nodup : (P.map (·.1)).Nodup
  mem : ∀ p ∈ P, p.2 ∈ l ∧ p.2.name = p.1
theorem VP.nil (l : List Md) : VP l [] := ⟨List.nodup_nil, fun p h => by cases h⟩
theorem VP.len {l : List Md} {P : PM} (h : VP l P) : P.length ≤ l.length := by
  have h1 : (P.map (·.2)).Nodup := by
    refine List.pairwise_map.2 ((List.pairwise_map.1 h.nodup).imp_of_mem fun {a b} ha hb hne e => ?_)
    rw [← (h.mem a ha).2, ← (h.mem b hb).2, e] at hne
    exact hne rfl
  have := h1.length_le_of_subset (l₂ := l) fun x hx => by
    obtain ⟨p, hp, rfl⟩ := List.mem_map.1 hx
    exact (h.mem p hp).1
  simpa using this
theorem VP.add {l : List Md} {P : PM} (h : VP l P) {n : ByteArray} {m : Md} (hn : n ∉ P.map (·.1)) (hm : m ∈ l ∧ m.name = n) : VP l (P ++ [(n, m)]) := by
  refine ⟨?_, fun p hp => ?_⟩
  · rw [List.map_append, List.nodup_append]
    refine ⟨h.nodup, by simp, fun a ha b hb e => ?_⟩
    simp only [List.map_cons, List.map_nil, List.mem_singleton] at hb
    rw [e, hb] at ha; exact hn ha
  · rcases List.mem_append.1 hp with hp | hp
    · exact h.mem p hp
    · rw [List.mem_singleton.1 hp]; exact hm
theorem strLt_total {a b : ByteArray} (h : strLt a b = false) (h' : strLt b a = false) : a = b := by
  rw [strLt_bl, decide_eq_false_iff_not] at h h'
  exact bl_inj (List.le_antisymm h' h)
/-- what is found among wants: the least open name -/
def IsOpen (P : PM) (W : List Us) : Option ByteArray → Prop
  | none => ∀ u ∈ W, u.name ∈ P.map (·.1)
  | some n => (∃ u ∈ W, u.name = n) ∧ n ∉ P.map (·.1) ∧ ∀ u ∈ W, u.name ∉ P.map (·.1) → strLt u.name n = false
theorem isOpen_det {P : PM} {W W' : List Us} (hW : ∀ u, u ∈ W ↔ u ∈ W') {o o' : Option ByteArray} (h : IsOpen P W o) (h' : IsOpen P W' o') : o = o' := by
  cases o with
  | none =>
    cases o' with
    | none => rfl
    | some n' =>
      obtain ⟨⟨u, hu, rfl⟩, h2, _⟩ := h'
      exact absurd (h u ((hW u).2 hu)) h2
  | some n =>
    obtain ⟨⟨u, hu, rfl⟩, h2, h3⟩ := h
    cases o' with
    | none => exact absurd (h' u ((hW u).1 hu)) h2
    | some n' =>
      obtain ⟨⟨u', hu', rfl⟩, h5, h6⟩ := h'
      rw [strLt_total (h6 u ((hW u).1 hu) h2) (h3 u' ((hW u').2 hu') h5)]
theorem isOpen_step {P : PM} {W : List Us} {o : Option ByteArray} (h : IsOpen P W o) (u : Us) : IsOpen P (W ++ [u]) (openStep P o u) := by
  unfold openStep
  cases hs : (gget u.name P).isSome
  · have hu : u.name ∉ P.map (·.1) := fun hm => by rw [gget_mem.2 hm] at hs; cases hs
    rw [cond_false]
    cases o with
    | none =>
      refine ⟨⟨u, by simp, rfl⟩, hu, fun v hv hn => ?_⟩
      rcases List.mem_append.1 hv with hv | hv
      · exact absurd (h v hv) hn
      · rw [List.mem_singleton.1 hv]; exact strLt_irrefl _
    | some n =>
      obtain ⟨⟨w, hw, hwn⟩, h2, h3⟩ := h
      show IsOpen P (W ++ [u]) (bif strLt u.name n then some u.name else some n)
      cases hl : strLt u.name n
      · refine ⟨⟨w, by simp [hw], hwn⟩, h2, fun v hv hn => ?_⟩
        rcases List.mem_append.1 hv with hv | hv
        · exact h3 v hv hn
        · rw [List.mem_singleton.1 hv]; exact hl
      · refine ⟨⟨u, by simp, rfl⟩, hu, fun v hv hn => ?_⟩
        rcases List.mem_append.1 hv with hv | hv
        · cases hc : strLt v.name u.name with
          | false => rfl
          | true => exact absurd (strLt_trans hc hl) (by rw [h3 v hv hn]; simp)
        · rw [List.mem_singleton.1 hv]; exact strLt_irrefl _
  · have hu : u.name ∈ P.map (·.1) := gget_mem.1 hs
    rw [cond_true]
    cases o with
    | none =>
      intro v hv
      rcases List.mem_append.1 hv with hv | hv
      · exact h v hv
      · rw [List.mem_singleton.1 hv]; exact hu
    | some n =>
      obtain ⟨⟨w, hw, hwn⟩, h2, h3⟩ := h
      refine ⟨⟨w, by simp [hw], hwn⟩, h2, fun v hv hn => ?_⟩
      rcases List.mem_append.1 hv with hv | hv
      · exact h3 v hv hn
      · rw [List.mem_singleton.1 hv] at hn; exact absurd hu hn
theorem openP_snoc {P : PM} {W : List Us} {k : Nat} {u : Us} (h : W[k]? = some u) : openP P (W.take (k + 1)) = openStep P (openP P (W.take k)) u := by
  obtain ⟨h1, rfl⟩ := List.getElem?_eq_some_iff.1 h
  rw [openP, List.take_succ_eq_append_getElem h1, List.foldl_append]
  rfl
theorem isOpen_P (P : PM) (W : List Us) : IsOpen P W (openP P W) := by
  have h : ∀ (W X : List Us) (o : Option ByteArray), IsOpen P X o → IsOpen P (X ++ W) (W.foldl (openStep P) o) := by
    intro W
    induction W with
    | nil => intro X o h; rw [List.append_nil]; exact h
    | cons u W ih =>
      intro X o h
      have := ih (X ++ [u]) _ (isOpen_step h u)
      rw [List.append_assoc] at this
      exact this
  have := h W [] none (fun u hu => by cases hu)
  simpa [openP] using this
theorem openP_eq {P : PM} {W W' : List Us} (hW : ∀ u, u ∈ W ↔ u ∈ W') : openP P W = openP P W' := isOpen_det hW (isOpen_P P W) (isOpen_P P W')
theorem satP_eq {P : PM} {W W' : List Us} (hW : ∀ u, u ∈ W ↔ u ∈ W') : satP W P = satP W' P := by
  have h : ∀ {W W' : List Us}, (∀ u, u ∈ W ↔ u ∈ W') → satP W P = true → satP W' P = true := fun {W W'} hW h => by
    unfold satP at *
    rw [List.all_eq_true] at *
    exact fun u hu => h u ((hW u).2 hu)
  cases h1 : satP W P
  · cases h2 : satP W' P
    · rfl
    · rw [h (fun u => (hW u).symm) h2] at h1; cases h1
  · rw [h hW h1]
theorem openP_not {P : PM} {W : List Us} {n : ByteArray} (h : openP P W = some n) : n ∉ P.map (·.1) ∧ ∃ u ∈ W, u.name = n := by
  have := isOpen_P P W
  rw [h] at this
  exact ⟨this.2.1, this.1⟩
def outOf (R : PM) (ns : List ByteArray) : List Pk := ns.map fun n => ⟨n, ((gget n R).map Md.version).getD 0⟩
def outL (R : PM) : List Pk := outOf R (sortB (R.map (·.1)))
noncomputable def bestV (l : List Md) (root : List Us) (fs : List Pk) : List Pk × Int :=
  bif decide (checkE l = 0) then (bif decide (wantsE root = 0) then (match compl l fs root (l.length + 1) [] with | none => ([], 22) | some R => (outL R, 0)) else ([], wantsE root)) else ([], checkE l)
theorem out_snoc {R : PM} {ns : List ByteArray} {k : Nat} {n : ByteArray} (h : ns[k]? = some n) : outOf R (ns.take (k + 1)) = outOf R (ns.take k) ++ [⟨n, ((gget n R).map Md.version).getD 0⟩] := by
  obtain ⟨h1, rfl⟩ := List.getElem?_eq_some_iff.1 h
  unfold outOf
  rw [List.take_succ_eq_append_getElem h1, List.map_append]
  rfl
theorem out_len (R : PM) (ns : List ByteArray) : (outOf R ns).length = ns.length := by simp [outOf]
/-- what a good register and good wants are -/
structure Rg1 (l : List Md) : Prop where
  len : l.length ≤ 30
  mods : ∀ m ∈ l, (1 ≤ m.version ∧ m.version ≤ 9999) ∧ m.uses.length ≤ 5 ∧ (∀ u ∈ m.uses, useE u = 0) ∧ nameOk m.name.data.toList = true
  ord : l.Pairwise fun a b => mordB a b = true
theorem modE_name {m : Md} (h : modE m = 0) : nameOk m.name.data.toList = true := by
  unfold modE at h
  split at h
  · assumption
  · cases h
theorem checkE_rg {l : List Md} (h : checkE l = 0) : Rg1 l := by
  unfold checkE at h
  split at h
  · cases h
  · next hl =>
    obtain ⟨h1, h2⟩ := modsE_all h
    refine ⟨by omega, fun m hm => ?_, ord_pair h2⟩
    obtain ⟨h3, h4⟩ := modE_ok (h1 m hm)
    obtain ⟨h5, h6⟩ := wantsE_ok h4
    exact ⟨h3, h5, h6, modE_name (h1 m hm)⟩
theorem compl_vp {l : List Md} {fs : List Pk} {root : List Us} : ∀ {k : Nat} {P R : PM}, VP l P → compl l fs root k P = some R → VP l R
  | 0, _, _, _, h => by cases h
  | k + 1, P, R, hP, h => by
    rw [compl] at h
    cases ho : openP P (wantsP root P) with
    | none =>
      rw [ho] at h
      cases h
      exact hP
    | some n =>
      rw [ho] at h
      obtain ⟨m, hm, hf⟩ := List.exists_of_findSome?_eq_some h
      cases hs : satP (wantsP root (P ++ [(n, m)])) (P ++ [(n, m)])
      · rw [hs] at hf; cases hf
      · rw [hs] at hf
        exact compl_vp (hP.add (openP_not ho).1 (cand_mem hm)) hf
theorem wantsP_len {l : List Md} (hl : Rg1 l) {root : List Us} (hr : root.length ≤ 5) {P : PM} (hP : VP l P) : (wantsP root P).length ≤ 155 := by
  have h1 := hP.len
  have h2 := hl.len
  have h3 : ∀ Q : PM, (∀ p ∈ Q, p.2 ∈ l) → (Q.flatMap (fun p => p.2.uses)).length ≤ 5 * Q.length := by
    intro Q
    induction Q with
    | nil => intro _; simp
    | cons q Q ih =>
      intro h
      have h4 := ih fun p hp => h p (by simp [hp])
      have h5 := (hl.mods q.2 (h q (by simp))).2.1
      rw [List.flatMap_cons, List.length_append, List.length_cons]
      omega
  have := h3 P fun p hp => (hP.mem p hp).1
  unfold wantsP
  rw [List.length_append]
  omega
end Go.Proofs.Ytnkafjkcjpajgaa
namespace Go.Proofs.Ytnkafjkcjpajgaa
open Go.RowKit
theorem nm_af {f : FuncId} {s : ByteArray} (h : AF Try.prog f [.lit (.string (bs s.data.toList))] (· = .lit (.bool (nameOk s.data.toList)))) : AF Try.prog f [.lit (.string s)] (· = .lit (.bool (nameOk s.data.toList))) := by rwa [bs_data] at h
set_option maxRecDepth 100000 in
set_option maxHeartbeats 4000000 in
theorem wants_af (l : List Us) (hl : Us.sizes l ≤ 1048576) : AF Try.prog 58 [Us.row l] (· = .lit (.int .i64 (wantsE l))) := by
  have e : wantsE l = if 5 < l.length then 2 else usesE l := rfl
  have hll := Us.len_sizes l
  generalize hw : wantsE l = we at *
  clear hw
  refine af_enter tok Try.func58 Try.ntmps58 Try.results58 rfl (by kernel_rfl) rfl rfl fun F hX => ?_
  repeat (first | refine gG ?_ | refine zN1 (fun hlen => ?_) | refine zN2 (fun hlen => ?_) | refine zAl (fun _ => ?_))
  refine x_cond rfl (fun h => ?_) (fun h => ?_)
  · have h5 : 5 < l.length := by have := of_decide_eq_true h; omega
    repeat (first | refine gG ?_ | refine zN1 (fun hlen => ?_) | refine zN2 (fun hlen => ?_) | refine zAl (fun _ => ?_))
    first | refine zR ?_ | refine zQ ?_
    rw [e, if_pos h5]
    rfl
  · have h5 : ¬ 5 < l.length := by have := of_decide_eq_false h; omega
    rw [if_neg h5] at e
    repeat (first | refine gG ?_ | refine zN1 (fun hlen => ?_) | refine zN2 (fun hlen => ?_) | refine zAl (fun _ => ?_))
    refine x_loop [2, 4, 10, 11, 12, 13, 14, 15, 16, 17, 18, 19, 20, 21, 22, 23, 24, 25, 26, 27, 28, 29, 30, 31, 32, 33, 34, 35] (fun k : Nat => [(10, .c (.lit (.int .i64 (k : Nat))))]) (fun _ => []) (fun k => k ≤ l.length ∧ usesE l = usesE (l.drop k)) (fun k => l.length - k) 0 ⟨Nat.zero_le _, rfl⟩ ⟨rfl, trivial⟩ rfl ?_
    rintro k ⟨hk, hu⟩
    repeat (first | refine gG ?_ | refine zN1 (fun hlen => ?_) | refine zN2 (fun hlen => ?_) | refine zAl (fun _ => ?_))
    refine x_cond rfl (fun h => ?_) (fun h => ?_)
    · have hk' : k < l.length := by simpa using h
      obtain ⟨u, hu1⟩ := nth hk'
      have hs := usesE_step hu1
      have hsz : u.name.size ≤ 1048576 := by
        have := Us.size_mem (List.mem_of_getElem? hu1)
        obtain ⟨nm, lo, hi⟩ := u
        simp only [Us.size] at this
        simp only
        omega
      have hN := nm_af (name_af u.name.data.toList (by simpa using hsz))
      rw [← hu, ← e] at hs
      repeat (first | refine gG ?_ | refine zN1 (fun hlen => ?_) | refine zN2 (fun hlen => ?_) | refine zAl (fun _ => ?_))
      refine zIx (k) (hk') ?_
      repeat (first | refine gG ?_ | refine zN1 (fun hlen => ?_) | refine zN2 (fun hlen => ?_) | refine zAl (fun _ => ?_))
      refine zEl (Us.at hu1) (Us.ts_len u) ?_
      obtain ⟨nm, lo, hi⟩ := u
      have hE : useE ⟨nm, lo, hi⟩ = if nameOk nm.data.toList then (if lo < 1 ∨ 9999 < hi ∨ hi < lo then 1 else 0) else 11 := rfl
      dsimp only at hN
      generalize useE ⟨nm, lo, hi⟩ = ue at *
      generalize nameOk nm.data.toList = okn at *
      clear hsz hu1 h
      repeat (first | refine gG ?_ | refine zN1 (fun hlen => ?_) | refine zN2 (fun hlen => ?_) | refine zAl (fun _ => ?_))
      refine zCall (hN) ?_
      rintro _ rfl
      cases okn
      · repeat (first | refine gG ?_ | refine zN1 (fun hlen => ?_) | refine zN2 (fun hlen => ?_) | refine zAl (fun _ => ?_))
        first | refine zR ?_ | refine zQ ?_
        rw [hs, hE]
        rfl
      cases d1 : decide (lo < 1)
      rotate_left
      · repeat (first | refine gG ?_ | refine zN1 (fun hlen => ?_) | refine zN2 (fun hlen => ?_) | refine zAl (fun _ => ?_))
        first | refine zR ?_ | refine zQ ?_
        have h1 : ue = 1 := by rw [hE, if_pos rfl, if_pos (.inl (of_decide_eq_true d1))]
        rw [hs, h1]
        rfl
      cases d2 : decide (9999 < hi)
      rotate_left
      · repeat (first | refine gG ?_ | refine zN1 (fun hlen => ?_) | refine zN2 (fun hlen => ?_) | refine zAl (fun _ => ?_))
        first | refine zR ?_ | refine zQ ?_
        have h1 : ue = 1 := by rw [hE, if_pos rfl, if_pos (.inr (.inl (of_decide_eq_true d2)))]
        rw [hs, h1]
        rfl
      cases d3 : decide (hi < lo)
      rotate_left
      · repeat (first | refine gG ?_ | refine zN1 (fun hlen => ?_) | refine zN2 (fun hlen => ?_) | refine zAl (fun _ => ?_))
        first | refine zR ?_ | refine zQ ?_
        have h1 : ue = 1 := by rw [hE, if_pos rfl, if_pos (.inr (.inr (of_decide_eq_true d3)))]
        rw [hs, h1]
        rfl
      have h0 : ue = 0 := by
        have a1 := of_decide_eq_false d1
        have a2 := of_decide_eq_false d2
        have a3 := of_decide_eq_false d3
        rw [hE, if_pos rfl, if_neg (by omega)]
      rw [h0, if_pos rfl] at hs
      repeat (first | refine gG ?_ | refine zN1 (fun hlen => ?_) | refine zN2 (fun hlen => ?_) | refine zAl (fun _ => ?_))
      exact ⟨k + 1, ⟨hk', by rw [← e]; exact hs⟩, by omega, x_wkd 0 ⟨rfl, trivial⟩ rfl (by repeat (first | exact ag_refl | refine ag_upd rfl ?_ | refine ag_at rfl rfl ?_))⟩
    · have hk' : k = l.length := by have : ¬ k < l.length := by simpa using h
                                    omega
      subst hk'
      repeat (first | refine gG ?_ | refine zN1 (fun hlen => ?_) | refine zN2 (fun hlen => ?_) | refine zAl (fun _ => ?_))
      first | refine zR ?_ | refine zQ ?_
      rw [e, hu, List.drop_length]
      rfl
set_option maxRecDepth 100000 in
set_option maxHeartbeats 4000000 in
theorem usesFault_af (l : List Us) (hl : Us.sizes l ≤ 1048576) : AF Try.prog 62 [Us.row l] (· = .lit (.int .i64 (wantsE l))) := by
  have e : wantsE l = if 5 < l.length then 2 else usesE l := rfl
  have hll := Us.len_sizes l
  generalize hw : wantsE l = we at *
  clear hw
  refine af_enter tok Try.func62 Try.ntmps62 Try.results62 rfl (by kernel_rfl) rfl rfl fun F hX => ?_
  repeat (first | refine gG ?_ | refine zN1 (fun hlen => ?_) | refine zN2 (fun hlen => ?_) | refine zAl (fun _ => ?_))
  refine x_cond rfl (fun h => ?_) (fun h => ?_)
  · have h5 : 5 < l.length := by have := of_decide_eq_true h; omega
    repeat (first | refine gG ?_ | refine zN1 (fun hlen => ?_) | refine zN2 (fun hlen => ?_) | refine zAl (fun _ => ?_))
    first | refine zR ?_ | refine zQ ?_
    rw [e, if_pos h5]
    rfl
  · have h5 : ¬ 5 < l.length := by have := of_decide_eq_false h; omega
    rw [if_neg h5] at e
    repeat (first | refine gG ?_ | refine zN1 (fun hlen => ?_) | refine zN2 (fun hlen => ?_) | refine zAl (fun _ => ?_))
    refine x_loop [2, 4, 10, 11, 12, 13, 14, 15, 16, 17, 18, 19, 20, 21, 22, 23, 24, 25, 26, 27, 28, 29, 30, 31, 32, 33] (fun k : Nat => [(10, .c (.lit (.int .i64 (k : Nat))))]) (fun _ => []) (fun k => k ≤ l.length ∧ usesE l = usesE (l.drop k)) (fun k => l.length - k) 0 ⟨Nat.zero_le _, rfl⟩ ⟨rfl, trivial⟩ rfl ?_
    rintro k ⟨hk, hu⟩
    repeat (first | refine gG ?_ | refine zN1 (fun hlen => ?_) | refine zN2 (fun hlen => ?_) | refine zAl (fun _ => ?_))
    refine x_cond rfl (fun h => ?_) (fun h => ?_)
    · have hk' : k < l.length := by simpa using h
      obtain ⟨u, hu1⟩ := nth hk'
      have hs := usesE_step hu1
      have hsz : u.name.size ≤ 1048576 := by
        have := Us.size_mem (List.mem_of_getElem? hu1)
        obtain ⟨nm, lo, hi⟩ := u
        simp only [Us.size] at this
        simp only
        omega
      have hN := nm_af (moduleName_af u.name.data.toList (by simpa using hsz))
      rw [← hu, ← e] at hs
      repeat (first | refine gG ?_ | refine zN1 (fun hlen => ?_) | refine zN2 (fun hlen => ?_) | refine zAl (fun _ => ?_))
      refine zIx (k) (hk') ?_
      repeat (first | refine gG ?_ | refine zN1 (fun hlen => ?_) | refine zN2 (fun hlen => ?_) | refine zAl (fun _ => ?_))
      refine zEl (Us.at hu1) (Us.ts_len u) ?_
      obtain ⟨nm, lo, hi⟩ := u
      have hE : useE ⟨nm, lo, hi⟩ = if nameOk nm.data.toList then (if lo < 1 ∨ 9999 < hi ∨ hi < lo then 1 else 0) else 11 := rfl
      dsimp only at hN
      generalize useE ⟨nm, lo, hi⟩ = ue at *
      generalize nameOk nm.data.toList = okn at *
      clear hsz hu1 h
      repeat (first | refine gG ?_ | refine zN1 (fun hlen => ?_) | refine zN2 (fun hlen => ?_) | refine zAl (fun _ => ?_))
      refine zCall (hN) ?_
      rintro _ rfl
      cases okn
      · repeat (first | refine gG ?_ | refine zN1 (fun hlen => ?_) | refine zN2 (fun hlen => ?_) | refine zAl (fun _ => ?_))
        first | refine zR ?_ | refine zQ ?_
        rw [hs, hE]
        rfl
      cases d1 : decide (lo < 1)
      rotate_left
      · repeat (first | refine gG ?_ | refine zN1 (fun hlen => ?_) | refine zN2 (fun hlen => ?_) | refine zAl (fun _ => ?_))
        first | refine zR ?_ | refine zQ ?_
        have h1 : ue = 1 := by rw [hE, if_pos rfl, if_pos (.inl (of_decide_eq_true d1))]
        rw [hs, h1]
        rfl
      cases d2 : decide (9999 < hi)
      rotate_left
      · repeat (first | refine gG ?_ | refine zN1 (fun hlen => ?_) | refine zN2 (fun hlen => ?_) | refine zAl (fun _ => ?_))
        first | refine zR ?_ | refine zQ ?_
        have h1 : ue = 1 := by rw [hE, if_pos rfl, if_pos (.inr (.inl (of_decide_eq_true d2)))]
        rw [hs, h1]
        rfl
      cases d3 : decide (hi < lo)
      rotate_left
      · repeat (first | refine gG ?_ | refine zN1 (fun hlen => ?_) | refine zN2 (fun hlen => ?_) | refine zAl (fun _ => ?_))
        first | refine zR ?_ | refine zQ ?_
        have h1 : ue = 1 := by rw [hE, if_pos rfl, if_pos (.inr (.inr (of_decide_eq_true d3)))]
        rw [hs, h1]
        rfl
      have h0 : ue = 0 := by
        have a1 := of_decide_eq_false d1
        have a2 := of_decide_eq_false d2
        have a3 := of_decide_eq_false d3
        rw [hE, if_pos rfl, if_neg (by omega)]
      rw [h0, if_pos rfl] at hs
      repeat (first | refine gG ?_ | refine zN1 (fun hlen => ?_) | refine zN2 (fun hlen => ?_) | refine zAl (fun _ => ?_))
      exact ⟨k + 1, ⟨hk', by rw [← e]; exact hs⟩, by omega, x_wkd 0 ⟨rfl, trivial⟩ rfl (by repeat (first | exact ag_refl | refine ag_upd rfl ?_ | refine ag_at rfl rfl ?_))⟩
    · have hk' : k = l.length := by have : ¬ k < l.length := by simpa using h
                                    omega
      subst hk'
      repeat (first | refine gG ?_ | refine zN1 (fun hlen => ?_) | refine zN2 (fun hlen => ?_) | refine zAl (fun _ => ?_))
      first | refine zR ?_ | refine zQ ?_
      rw [e, hu, List.drop_length]
      rfl
end Go.Proofs.Ytnkafjkcjpajgaa
namespace Go.Proofs.Ytnkafjkcjpajgaa
open Go.RowKit
def intTs (i : Int) : List T := [.lit (.int .i64 i)]
def intRow (l : List Int) : T := .row l.length 1 (l.flatMap intTs)
theorem int_at {l : List Int} {k : Nat} {i : Int} (h : l[k]? = some i) : (l.flatMap intTs)[k * 1]? = some (.lit (.int .i64 i)) := flat_get intTs 1 (fun _ => rfl) h (j := 0) (by omega)
end Go.Proofs.Ytnkafjkcjpajgaa
