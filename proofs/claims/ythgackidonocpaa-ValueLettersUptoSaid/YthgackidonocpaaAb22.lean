/-
  Abstract states: the rules of Ab20 and Ab21, short.
-/
import Derived.Test.YthgackidonocpaaAb21
namespace Go.Proofs.Ythgackidonocpaa
open Go.RowKit

section
variable {L : Tab} {σ : AS}
theorem outsA_nil : OutsA L σ [] [] := by simp only [OutsA]
theorem outsA_cons {r : ResultVar} {rs : List ResultVar} {v : AV} {vs : List AV} (h : OutA L σ r v) (h' : OutsA L σ rs vs) : OutsA L σ (r :: rs) (v :: vs) := by simp only [OutsA]; exact ⟨v, vs, rfl, h, h'⟩
theorem outA_tmp {i : Nat} {v : AV} (h : fc (σ.tmps i) = some v) : OutA L σ (.tmp i) v := by simp only [OutA]; exact fc_eq h
theorem outA_agg {a ty i b off : Nat} {tb : TypeId} {cs l : List AV} {ti : TI} (h1 : σ.tmps a = .ptr i b off) (h2 : σ.hp[i]? = some (.box b tb cs)) (h3 : L.look ty = some ti) (h4 : ti.agg = true) (h5 : Nat.ble (off + ti.size) cs.length = true) (h6 : evl ((cs.drop off).take ti.size) = some l) : OutA L σ (.cell a ty) (.agg l) := by
  simp only [OutA]
  refine ⟨i, b, off, tb, cs, ti, h1, h2, h3, ?_⟩
  rw [h4]
  exact ⟨Nat.le_of_ble_eq_true h5, by rw [evl_eq h6]⟩
theorem outA_one {a ty i b off : Nat} {tb : TypeId} {cs : List AV} {v : AV} {ti : TI} (h1 : σ.tmps a = .ptr i b off) (h2 : σ.hp[i]? = some (.box b tb cs)) (h3 : L.look ty = some ti) (h4 : ti.agg = false) (h5 : cs[off]? = some v) : OutA L σ (.cell a ty) v := by
  simp only [OutA]
  refine ⟨i, b, off, tb, cs, ti, h1, h2, h3, ?_⟩
  rw [h4]
  exact h5
theorem zG {res : List ResultVar} {k : Nat} {R : AV → List Blk → Prop} {e : Exit} {vs : List AV} {hq : List Blk} (h : R (outA vs) hq) (he : e = .normal ∨ e = .ret := by first | exact .inl rfl | exact .inr rfl)
    (ho : OutsA L σ res vs := by repeat (first | exact outsA_nil | apply outsA_cons | (apply outA_tmp; (focus exact rfl)) | (apply outA_agg; (focus exact rfl); (focus exact rfl); (focus exact rfl); (focus exact rfl); (focus exact rfl); (focus exact rfl)) | (apply outA_one; (focus exact rfl); (focus exact rfl); (focus exact rfl); (focus exact rfl); (focus exact rfl))))
    (hh : evl (σ.hp.take k) = some hq := by exact rfl) : FinG L res k R e σ := ⟨he, vs, ho, by rw [← evl_eq hh]; exact h⟩
end

section
variable {P : Program} {F : Frm} {L : Tab} {d : Option Tmp} {ty : TypeId} {pos : String} {aft : Array Edge} {g : Option (Nat × Bool)} {ρ : Operand → AV} {hp : List Blk} {K : AV → List Blk → Prop}
theorem zCallG {f : FuncId} {y : Operand} {xs : List Operand} {ats : Array TypeId} {as cap : List AV} {hs : List Blk} {R : AV → List Blk → Prop} (sel : List Nat) (hc : AG P f as hs R)
    (h : ∀ r hs2, R r hs2 → ∃ r' hp', Re r r' ∧ Nat.ble sel.length hs2.length = true ∧ evl (putB hp sel hs2) = some hp' ∧ K r' hp') (hy : ρ y = .fn (.func f) cap := by exact rfl)
    (hx : Res (xs.map ρ ++ cap) as := by repeat (first | exact res_nil | apply res_cons | exact re_own | exact re_ptr | exact re_refl | apply re_cls | exact rzs_nil | apply rzs_cons | exact rz_c | exact rz_nil rfl | apply rz_agg | apply rz_fn | apply rz_tup)) (hsl : selB hp sel = some hs := by exact rfl) (hf : freshB sel = true := by exact rfl) :
    LO P F ⟨d, .call { callee := .value y, args := xs.toArray, argTypes := ats }, ty, pos, aft, g⟩ ρ hp K :=
  lo_callG sel hc (fun M u hu => by rw [hy] at hu; simpa only [RA] using hu) hx hsl hf fun r hs2 hR => by
    obtain ⟨r', hp', h1, h2, h3, h4⟩ := h r hs2 hR
    exact ⟨r', h1, Nat.le_of_ble_eq_true h2, by rw [← evl_eq h3]; exact h4⟩
/-- a function value that came in -/
theorem zCallGc {f : FuncId} {y : Operand} {xs : List Operand} {ats : Array TypeId} {as : List AV} {cap : List T} {hs : List Blk} {R : AV → List Blk → Prop} (sel : List Nat) (hc : AG P f as hs R)
    (h : ∀ r hs2, R r hs2 → ∃ r' hp', Re r r' ∧ Nat.ble sel.length hs2.length = true ∧ evl (putB hp sel hs2) = some hp' ∧ K r' hp') (hy : ρ y = .c (.fn (.func f) cap) := by exact rfl)
    (hx : Res (xs.map ρ ++ cap.map .c) as := by repeat (first | exact res_nil | apply res_cons | exact re_own | exact re_ptr | exact re_refl | apply re_cls | exact rzs_nil | apply rzs_cons | exact rz_c | exact rz_nil rfl | apply rz_agg | apply rz_fn | apply rz_tup)) (hsl : selB hp sel = some hs := by exact rfl) (hf : freshB sel = true := by exact rfl) :
    LO P F ⟨d, .call { callee := .value y, args := xs.toArray, argTypes := ats }, ty, pos, aft, g⟩ ρ hp K :=
  lo_callG sel hc (fun M u hu => by
    rw [hy] at hu
    simp only [RA, RT] at hu
    obtain ⟨cs, h1, h2⟩ := hu
    exact ⟨cs, h1, RAs.ofT h2⟩) hx hsl hf fun r hs2 hR => by
    obtain ⟨r', hp', h1, h2, h3, h4⟩ := h r hs2 hR
    exact ⟨r', h1, Nat.le_of_ble_eq_true h2, by rw [← evl_eq h3]; exact h4⟩
variable {t u e : TypeId} {x y : Operand} {ti tu te : TI} {cs : List T} {n i : Nat} {v : Value} {e' : TypeId}
theorem zStr (l : List UInt8) (hc : cs = byts l) (hn : n = l.length) (h : K (.c (.lit (.string ⟨l.toArray⟩))) hp) (hL : TabOk P L := by exact tok) (hx : ρ x = .c (.row n 1 cs) := by exact rfl) (hu : L.look u = some tu := by exact rfl) (hud : tu.d = .slice e := by exact rfl) (he : L.look e = some te := by exact rfl) (hed : te.d = .int .u8 := by exact rfl) (ht : L.look t = some ti := by exact rfl) (hd : ti.d = .string := by exact rfl) :
    LO P F ⟨d, .convert u t x, ty, pos, aft, g⟩ ρ hp K := lo_str hL (by rw [hx, hc, hn]; rfl) hu hud he hed ht hd h
theorem zStrO (l : List UInt8) (hc : cs = byts l) (h : K (.c (.lit (.string ⟨l.toArray⟩))) hp) (hL : TabOk P L := by exact tok) (hx : ρ x = .own i v := by exact rfl) (hi : hp[i]? = some (.row v e' 1 n cs) := by exact rfl) (hu : L.look u = some tu := by exact rfl) (hud : tu.d = .slice e := by exact rfl) (he : L.look e = some te := by exact rfl) (hed : te.d = .int .u8 := by exact rfl) (ht : L.look t = some ti := by exact rfl) (hd : ti.d = .string := by exact rfl) :
    LO P F ⟨d, .convert u t x, ty, pos, aft, g⟩ ρ hp K := lo_str_own hL hx (by rw [hi, hc]) hu hud he hed ht hd h
theorem zByt {s : ByteArray} (hs : s.size ≤ maxLen) (h : K (.c (bytRow s.data.toList)) hp) (hL : TabOk P L := by exact tok) (hx : ρ x = .c (.lit (.string s)) := by exact rfl) (hu : L.look u = some tu := by exact rfl) (hud : tu.d = .string := by exact rfl) (ht : L.look t = some ti := by exact rfl) (hd : ti.d = .slice e := by exact rfl) (he : L.look e = some te := by exact rfl) (hed : te.d = .int .u8 := by exact rfl) :
    LO P F ⟨d, .convert u t x, ty, pos, aft, g⟩ ρ hp K := lo_bytes hL hx hs hu hud ht hd he hed h
theorem zAps {s : ByteArray} {hp' : Value → List Blk} (h63 : n + s.size ≤ 140737488355328) (h : ∀ v', K (.own i v') (hp' v')) (hL : TabOk P L := by exact tok) (hx : ρ x = .own i v := by exact rfl) (hi : hp[i]? = some (.row v e 1 n cs) := by exact rfl) (hy : ρ y = .c (.lit (.string s)) := by exact rfl) (ht : L.look t = some ti := by exact rfl) (hd : ti.d = .slice e := by exact rfl) (hu : L.look u = some tu := by exact rfl) (hud : tu.d = .string := by exact rfl) (hte : L.look e = some te := by exact rfl) (hsz : te.size = 1 := by exact rfl) (hby : te.bytes = 1 := by exact rfl) (hz : te.zero = [.int .u8 0] := by exact rfl) (hag : te.agg = false := by exact rfl)
    (hf : ∀ v', evl (hp.set i (.row v' e 1 (n + s.size) (cs ++ byts s.data.toList))) = some (hp' v') := by exact fun _ => rfl) : LO P F ⟨d, .call { callee := .builtin .append, args := #[x, y], argTypes := #[t, u] }, ty, pos, aft, g⟩ ρ hp K :=
  lo_app_str hL hx hi hy ht hd hu hud hte hsz hby hz hag h63 fun v' => by rw [← evl_eq (hf v')]; exact h v'
end

end Go.Proofs.Ythgackidonocpaa
