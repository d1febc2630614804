/-
  Texts of this proof, part 7: Tab Yse Ysq Ysf Ysr.
-/
import Derived.Test.YthloejmmgdjimaaDoorQSessionSays6
import Derived.Lib.AppendStr
import Derived.Lib.AppendZerosOnto
import Derived.Lib.MinMax
import Derived.Test.YthloejmmgdjimaaDoorProg
import Derived.WideKeyEntry
namespace Go.Proofs.YthloejmmgdjimaaDoor
set_option maxRecDepth 100000 in
def tab : Tab :=
  (.node 58 ⟨2, 32, [.int .i64 0, .slice none 0 0], (.struct [(0, 1), (1, 1)])⟩ (.node 30 ⟨1, 8, [.nilFunc], .other⟩ (.node 14 ⟨2, 24, [.string ⟨#[]⟩, .int .u64 0], (.struct [(0, 1), (1, 1)])⟩ (.node 7 ⟨4, 24, [.int .i64 0, .int .i64 0, .bool false, .int .u8 0], (.struct [(0, 1), (1, 1), (2, 1), (3, 1)])⟩ (.node 4 ⟨1, 1, [.bool false], .bool⟩ (.node 2 ⟨1, 8, [.int .i64 0], (.int .i64)⟩ (.node 1 ⟨1, 8, [.nilFunc], .other⟩ .nil .nil) (.node 3 ⟨1, 8, [.int .i64 0], (.int .i64)⟩ .nil .nil)) (.node 6 ⟨1, 1, [.int .u8 0], (.int .u8)⟩ (.node 5 ⟨1, 1, [.int .u8 0], (.int .u8)⟩ .nil .nil) .nil)) (.node 11 ⟨1, 16, [.string ⟨#[]⟩], .string⟩ (.node 9 ⟨1, 16, [.string ⟨#[]⟩], .string⟩ (.node 8 ⟨4, 24, [.int .i64 0, .int .i64 0, .bool false, .int .u8 0], (.struct [(0, 1), (1, 1), (2, 1), (3, 1)])⟩ .nil .nil) (.node 10 ⟨1, 16, [.string ⟨#[]⟩], .string⟩ .nil .nil)) (.node 13 ⟨2, 24, [.string ⟨#[]⟩, .int .u64 0], (.struct [(0, 1), (1, 1)])⟩ (.node 12 ⟨1, 8, [.int .u64 0], (.int .u64)⟩ .nil .nil) .nil))) (.node 21 ⟨1, 4, [.int .i32 0], (.int .i32)⟩ (.node 18 ⟨1, 8, [.pointer none], (.struct [(0, 1)])⟩ (.node 16 ⟨1, 8, [.pointer none], .other⟩ (.node 15 ⟨1, 8, [.pointer none], .other⟩ .nil .nil) (.node 17 ⟨1, 8, [.pointer none], .other⟩ .nil .nil)) (.node 20 ⟨1, 16, [.nilIface], .other⟩ (.node 19 ⟨1, 8, [.pointer none], (.struct [(0, 1)])⟩ .nil .nil) .nil)) (.node 24 ⟨1, 8, [.int .i64 0], (.int .i64)⟩ (.node 23 ⟨1, 24, [.slice none 0 0], (.slice 39)⟩ (.node 22 ⟨1, 24, [.slice none 0 0], (.slice 46)⟩ .nil .nil) .nil) (.node 28 ⟨1, 8, [.nilFunc], .other⟩ (.node 26 ⟨1, 8, [.nilFunc], .other⟩ .nil .nil) .nil)))) (.node 44 ⟨1, 24, [.slice none 0 0], (.slice 49)⟩ (.node 37 ⟨1, 24, [.slice none 0 0], (.slice 40)⟩ (.node 34 ⟨1, 8, [.nilFunc], .other⟩ (.node 32 ⟨1, 8, [.nilFunc], .other⟩ (.node 31 ⟨1, 24, [.slice none 0 0], (.slice 59)⟩ .nil .nil) (.node 33 ⟨1, 8, [.nilFunc], .other⟩ .nil .nil)) (.node 36 ⟨1, 8, [.nilFunc], .other⟩ (.node 35 ⟨1, 8, [.nilFunc], .other⟩ .nil .nil) .nil)) (.node 41 ⟨1, 8, [.nilFunc], .other⟩ (.node 39 ⟨2, 16, [.bool false, .int .i64 0], (.struct [(0, 1), (1, 1)])⟩ (.node 38 ⟨2, 16, [.bool false, .int .i64 0], (.struct [(0, 1), (1, 1)])⟩ .nil .nil) (.node 40 ⟨2, 16, [.int .i64 0, .int .i64 0], (.array 2 3)⟩ .nil .nil)) (.node 43 ⟨1, 8, [.nilFunc], .other⟩ (.node 42 ⟨1, 8, [.nilFunc], .other⟩ .nil .nil) .nil))) (.node 51 ⟨1, 8, [.nilFunc], .other⟩ (.node 48 ⟨2, 16, [.int .i64 0, .int .i64 0], (.struct [(0, 1), (1, 1)])⟩ (.node 46 ⟨2, 32, [.int .i64 0, .slice none 0 0], (.struct [(0, 1), (1, 1)])⟩ (.node 45 ⟨2, 32, [.int .i64 0, .slice none 0 0], (.struct [(0, 1), (1, 1)])⟩ .nil .nil) (.node 47 ⟨1, 8, [.nilFunc], .other⟩ .nil .nil)) (.node 50 ⟨1, 24, [.slice none 0 0], (.slice 3)⟩ (.node 49 ⟨2, 16, [.int .i64 0, .int .i64 0], (.struct [(0, 1), (1, 1)])⟩ .nil .nil) .nil)) (.node 55 ⟨1, 24, [.slice none 0 0], (.slice 22)⟩ (.node 54 ⟨1, 8, [.nilFunc], .other⟩ (.node 52 ⟨1, 8, [.map none], .other⟩ .nil .nil) .nil) (.node 57 ⟨1, 8, [.nilFunc], .other⟩ (.node 56 ⟨1, 8, [.nilFunc], .other⟩ .nil .nil) .nil))))) (.node 85 ⟨1, 24, [.slice none 0 0], (.slice 5)⟩ (.node 72 ⟨1, 8, [.nilFunc], .other⟩ (.node 65 ⟨1, 8, [.nilFunc], .other⟩ (.node 62 ⟨1, 8, [.nilFunc], .other⟩ (.node 60 ⟨1, 8, [.nilFunc], .other⟩ (.node 59 ⟨2, 32, [.int .i64 0, .slice none 0 0], (.struct [(0, 1), (1, 1)])⟩ .nil .nil) (.node 61 ⟨1, 8, [.nilFunc], .other⟩ .nil .nil)) (.node 64 ⟨1, 8, [.nilFunc], .other⟩ (.node 63 ⟨1, 8, [.nilFunc], .other⟩ .nil .nil) .nil)) (.node 69 ⟨1, 8, [.nilFunc], .other⟩ (.node 67 ⟨16, 16, [.bool false, .bool false, .bool false, .bool false, .bool false, .bool false, .bool false, .bool false, .bool false, .bool false, .bool false, .bool false, .bool false, .bool false, .bool false, .bool false], (.array 16 4)⟩ (.node 66 ⟨1, 8, [.nilFunc], .other⟩ .nil .nil) (.node 68 ⟨256, 256, [.bool false, .bool false, .bool false, .bool false, .bool false, .bool false, .bool false, .bool false, .bool false, .bool false, .bool false, .bool false, .bool false, .bool false, .bool false, .bool false, .bool false, .bool false, .bool false, .bool false, .bool false, .bool false, .bool false, .bool false, .bool false, .bool false, .bool false, .bool false, .bool false, .bool false, .bool false, .bool false, .bool false, .bool false, .bool false, .bool false, .bool false, .bool false, .bool false, .bool false, .bool false, .bool false, .bool false, .bool false, .bool false, .bool false, .bool false, .bool false, .bool false, .bool false, .bool false, .bool false, .bool false, .bool false, .bool false, .bool false, .bool false, .bool false, .bool false, .bool false, .bool false, .bool false, .bool false, .bool false, .bool false, .bool false, .bool false, .bool false, .bool false, .bool false, .bool false, .bool false, .bool false, .bool false, .bool false, .bool false, .bool false, .bool false, .bool false, .bool false, .bool false, .bool false, .bool false, .bool false, .bool false, .bool false, .bool false, .bool false, .bool false, .bool false, .bool false, .bool false, .bool false, .bool false, .bool false, .bool false, .bool false, .bool false, .bool false, .bool false, .bool false, .bool false, .bool false, .bool false, .bool false, .bool false, .bool false, .bool false, .bool false, .bool false, .bool false, .bool false, .bool false, .bool false, .bool false, .bool false, .bool false, .bool false, .bool false, .bool false, .bool false, .bool false, .bool false, .bool false, .bool false, .bool false, .bool false, .bool false, .bool false, .bool false, .bool false, .bool false, .bool false, .bool false, .bool false, .bool false, .bool false, .bool false, .bool false, .bool false, .bool false, .bool false, .bool false, .bool false, .bool false, .bool false, .bool false, .bool false, .bool false, .bool false, .bool false, .bool false, .bool false, .bool false, .bool false, .bool false, .bool false, .bool false, .bool false, .bool false, .bool false, .bool false, .bool false, .bool false, .bool false, .bool false, .bool false, .bool false, .bool false, .bool false, .bool false, .bool false, .bool false, .bool false, .bool false, .bool false, .bool false, .bool false, .bool false, .bool false, .bool false, .bool false, .bool false, .bool false, .bool false, .bool false, .bool false, .bool false, .bool false, .bool false, .bool false, .bool false, .bool false, .bool false, .bool false, .bool false, .bool false, .bool false, .bool false, .bool false, .bool false, .bool false, .bool false, .bool false, .bool false, .bool false, .bool false, .bool false, .bool false, .bool false, .bool false, .bool false, .bool false, .bool false, .bool false, .bool false, .bool false, .bool false, .bool false, .bool false, .bool false, .bool false, .bool false, .bool false, .bool false, .bool false, .bool false, .bool false, .bool false, .bool false, .bool false, .bool false, .bool false, .bool false, .bool false, .bool false, .bool false, .bool false, .bool false, .bool false, .bool false, .bool false, .bool false, .bool false, .bool false, .bool false, .bool false, .bool false, .bool false, .bool false, .bool false, .bool false, .bool false, .bool false, .bool false, .bool false], (.array 16 67)⟩ .nil .nil)) (.node 71 ⟨1, 8, [.nilFunc], .other⟩ (.node 70 ⟨1, 8, [.pointer none], .other⟩ .nil .nil) .nil))) (.node 79 ⟨1, 8, [.nilFunc], .other⟩ (.node 76 ⟨1, 8, [.nilFunc], .other⟩ (.node 74 ⟨1, 8, [.nilFunc], .other⟩ (.node 73 ⟨1, 8, [.nilFunc], .other⟩ .nil .nil) (.node 75 ⟨1, 8, [.nilFunc], .other⟩ .nil .nil)) (.node 78 ⟨1, 8, [.nilFunc], .other⟩ (.node 77 ⟨1, 8, [.nilFunc], .other⟩ .nil .nil) .nil)) (.node 82 ⟨1, 8, [.int .u64 0], (.int .u64)⟩ (.node 81 ⟨24, 24, [.int .u8 0, .int .u8 0, .int .u8 0, .int .u8 0, .int .u8 0, .int .u8 0, .int .u8 0, .int .u8 0, .int .u8 0, .int .u8 0, .int .u8 0, .int .u8 0, .int .u8 0, .int .u8 0, .int .u8 0, .int .u8 0, .int .u8 0, .int .u8 0, .int .u8 0, .int .u8 0, .int .u8 0, .int .u8 0, .int .u8 0, .int .u8 0], (.array 24 5)⟩ (.node 80 ⟨1, 8, [.nilFunc], .other⟩ .nil .nil) .nil) (.node 84 ⟨1, 8, [.nilFunc], .other⟩ (.node 83 ⟨1, 8, [.nilFunc], .other⟩ .nil .nil) .nil)))) (.node 99 ⟨4, 40, [.pointer none, .pointer none, .pointer none, .string ⟨#[]⟩], (.struct [(0, 1), (1, 1), (2, 1), (3, 1)])⟩ (.node 93 ⟨1, 8, [.nilFunc], .other⟩ (.node 90 ⟨1, 4, [.int .u32 0], (.int .u32)⟩ (.node 88 ⟨1, 8, [.nilFunc], .other⟩ (.node 87 ⟨1, 8, [.nilFunc], .other⟩ .nil .nil) (.node 89 ⟨20, 160, [.int .u64 0, .int .u64 0, .int .u64 0, .int .u64 0, .int .u64 0, .int .u64 0, .int .u64 0, .int .u64 0, .int .u64 0, .int .u64 0, .int .u64 0, .int .u64 0, .int .u64 0, .int .u64 0, .int .u64 0, .int .u64 0, .int .u64 0, .int .u64 0, .int .u64 0, .int .u64 0], (.array 20 82)⟩ .nil .nil)) (.node 92 ⟨1, 8, [.int .u64 0], (.int .u64)⟩ (.node 91 ⟨65, 65, [.int .u8 0, .int .u8 0, .int .u8 0, .int .u8 0, .int .u8 0, .int .u8 0, .int .u8 0, .int .u8 0, .int .u8 0, .int .u8 0, .int .u8 0, .int .u8 0, .int .u8 0, .int .u8 0, .int .u8 0, .int .u8 0, .int .u8 0, .int .u8 0, .int .u8 0, .int .u8 0, .int .u8 0, .int .u8 0, .int .u8 0, .int .u8 0, .int .u8 0, .int .u8 0, .int .u8 0, .int .u8 0, .int .u8 0, .int .u8 0, .int .u8 0, .int .u8 0, .int .u8 0, .int .u8 0, .int .u8 0, .int .u8 0, .int .u8 0, .int .u8 0, .int .u8 0, .int .u8 0, .int .u8 0, .int .u8 0, .int .u8 0, .int .u8 0, .int .u8 0, .int .u8 0, .int .u8 0, .int .u8 0, .int .u8 0, .int .u8 0, .int .u8 0, .int .u8 0, .int .u8 0, .int .u8 0, .int .u8 0, .int .u8 0, .int .u8 0, .int .u8 0, .int .u8 0, .int .u8 0, .int .u8 0, .int .u8 0, .int .u8 0, .int .u8 0, .int .u8 0], (.array 65 5)⟩ .nil .nil) .nil)) (.node 96 ⟨64, 64, [.int .u8 0, .int .u8 0, .int .u8 0, .int .u8 0, .int .u8 0, .int .u8 0, .int .u8 0, .int .u8 0, .int .u8 0, .int .u8 0, .int .u8 0, .int .u8 0, .int .u8 0, .int .u8 0, .int .u8 0, .int .u8 0, .int .u8 0, .int .u8 0, .int .u8 0, .int .u8 0, .int .u8 0, .int .u8 0, .int .u8 0, .int .u8 0, .int .u8 0, .int .u8 0, .int .u8 0, .int .u8 0, .int .u8 0, .int .u8 0, .int .u8 0, .int .u8 0, .int .u8 0, .int .u8 0, .int .u8 0, .int .u8 0, .int .u8 0, .int .u8 0, .int .u8 0, .int .u8 0, .int .u8 0, .int .u8 0, .int .u8 0, .int .u8 0, .int .u8 0, .int .u8 0, .int .u8 0, .int .u8 0, .int .u8 0, .int .u8 0, .int .u8 0, .int .u8 0, .int .u8 0, .int .u8 0, .int .u8 0, .int .u8 0, .int .u8 0, .int .u8 0, .int .u8 0, .int .u8 0, .int .u8 0, .int .u8 0, .int .u8 0, .int .u8 0], (.array 64 5)⟩ (.node 95 ⟨32, 32, [.int .u8 0, .int .u8 0, .int .u8 0, .int .u8 0, .int .u8 0, .int .u8 0, .int .u8 0, .int .u8 0, .int .u8 0, .int .u8 0, .int .u8 0, .int .u8 0, .int .u8 0, .int .u8 0, .int .u8 0, .int .u8 0, .int .u8 0, .int .u8 0, .int .u8 0, .int .u8 0, .int .u8 0, .int .u8 0, .int .u8 0, .int .u8 0, .int .u8 0, .int .u8 0, .int .u8 0, .int .u8 0, .int .u8 0, .int .u8 0, .int .u8 0, .int .u8 0], (.array 32 5)⟩ (.node 94 ⟨1, 8, [.nilFunc], .other⟩ .nil .nil) .nil) (.node 98 ⟨4, 40, [.pointer none, .pointer none, .pointer none, .string ⟨#[]⟩], (.struct [(0, 1), (1, 1), (2, 1), (3, 1)])⟩ (.node 97 ⟨1, 8, [.nilFunc], .other⟩ .nil .nil) .nil))) (.node 106 ⟨1, 8, [.nilFunc], .other⟩ (.node 103 ⟨1, 8, [.nilFunc], .other⟩ (.node 101 ⟨0, 0, [], (.struct [(0, 0)])⟩ (.node 100 ⟨0, 0, [], (.array 0 16)⟩ .nil .nil) (.node 102 ⟨0, 0, [], (.struct [(0, 0)])⟩ .nil .nil)) (.node 105 ⟨1, 1, [.int .u8 0], (.int .u8)⟩ (.node 104 ⟨1, 1, [.int .u8 0], (.int .u8)⟩ .nil .nil) .nil)) (.node 109 ⟨1, 4, [.int .i32 0], (.int .i32)⟩ (.node 108 ⟨1, 4, [.int .i32 0], (.int .i32)⟩ (.node 107 ⟨1, 8, [.pointer none], .other⟩ .nil .nil) .nil) (.node 111 ⟨11, 48, [.int .u64 0, .int .u64 0, .int .u32 0, .int .u8 0, .int .u8 0, .int .u8 0, .int .u8 0, .nilFunc, .pointer none, .int .i32 0, .int .i32 0], (.struct [(0, 1), (1, 1), (2, 1), (3, 1), (4, 1), (5, 1), (6, 1), (7, 1), (8, 1), (9, 1), (10, 1)])⟩ (.node 110 ⟨11, 48, [.int .u64 0, .int .u64 0, .int .u32 0, .int .u8 0, .int .u8 0, .int .u8 0, .int .u8 0, .nilFunc, .pointer none, .int .i32 0, .int .i32 0], (.struct [(0, 1), (1, 1), (2, 1), (3, 1), (4, 1), (5, 1), (6, 1), (7, 1), (8, 1), (9, 1), (10, 1)])⟩ .nil .nil) .nil))))))
set_option maxRecDepth 100000 in
theorem tabOkB : tab.okB Tryd.prog = true := by kernel_rfl
theorem tok : TabOk Tryd.prog tab := tab_ok tabOkB
end Go.Proofs.YthloejmmgdjimaaDoor
namespace Go.Proofs.YthloejmmgdjimaaDoor
open Go.RowKit
@[reducible] def iL (z : Int) : T := .lit (.int .i64 z)
@[reducible] def prTs (p : Int × Int) : List T := [iL p.1, iL p.2]
@[reducible] def Se.ts (s : Se) : List T := [iL s.kind, .row s.br.length 2 (s.br.flatMap prTs)]
@[reducible] def Se.t (s : Se) : T := .agg (Se.ts s)
def seRow (l : List Se) : T := .row l.length 2 (l.flatMap Se.ts)
theorem nth {α : Type} {l : List α} {k : Nat} (h : k < l.length) : ∃ a, l[k]? = some a := ⟨_, List.getElem?_eq_getElem h⟩
theorem pr_at {l : List (Int × Int)} {k : Nat} {p : Int × Int} (h : l[k]? = some p) : ((l.flatMap prTs).drop (k * 2)).take 2 = prTs p := flat_at prTs 2 (fun _ => rfl) h
theorem se_at {l : List Se} {k : Nat} {s : Se} (h : l[k]? = some s) : ((l.flatMap Se.ts).drop (k * 2)).take 2 = Se.ts s := flat_at Se.ts 2 (fun _ => rfl) h
theorem nx_drop {l : List (Int × Int)} {k : Nat} {p : Int × Int} (h : l[k]? = some p) (m : Int) : nxS (l.drop k) m = if p.1 = m then p.2 else nxS (l.drop (k + 1)) m := by
  obtain ⟨h1, rfl⟩ := List.getElem?_eq_some_iff.1 h
  rw [List.drop_eq_getElem_cons h1]
  rfl
set_option maxRecDepth 100000 in
set_option maxHeartbeats 1000000 in
theorem next_af (s : Se) (m : Int) : AF Tryd.prog 19 [s.t, iL m] (· = iL (nxS s.br m)) := by
  obtain ⟨kd, br⟩ := s
  refine af_enter tok Tryd.func19 Tryd.ntmps19 Tryd.results19 rfl (by kernel_rfl) rfl rfl fun F hX => ?_
  repeat (first | refine gG ?_ | refine zN1 (fun hlen => ?_) | refine zN2 (fun hlen => ?_) | refine zAl (fun _ => ?_) | refine zBf ?_)
  refine x_loop [4, 6, 10, 11, 12, 13, 14, 15, 16, 17, 18, 19, 20] (fun k : Nat => [(10, .c (iL (k : Nat)))]) (fun _ => []) (fun k => k ≤ br.length ∧ nxS br m = nxS (br.drop k) m) (fun k => br.length - k) 0 ⟨Nat.zero_le _, rfl⟩ ⟨rfl, trivial⟩ rfl ?_
  rintro k ⟨hk, he⟩
  repeat (first | refine gG ?_ | refine zN1 (fun hlen => ?_) | refine zN2 (fun hlen => ?_) | refine zAl (fun _ => ?_) | refine zBf ?_)
  refine x_cond rfl (fun h => ?_) (fun h => ?_)
  · have hk' : k < br.length := by simpa using h
    obtain ⟨⟨a, x⟩, hp⟩ := nth hk'
    have ht := pr_at hp
    rw [nx_drop hp] at he
    clear h
    cases d1 : decide (a = m)
    · rw [if_neg (of_decide_eq_false d1)] at he
      repeat (first | refine gG ?_ | refine zN1 (fun hlen => ?_) | refine zN2 (fun hlen => ?_) | refine zAl (fun _ => ?_) | refine zBf ?_)
      refine zIx k hk' ?_
      repeat (first | refine gG ?_ | refine zN1 (fun hlen => ?_) | refine zN2 (fun hlen => ?_) | refine zAl (fun _ => ?_) | refine zBf ?_)
      refine zEl ht rfl ?_
      repeat (first | refine gG ?_ | refine zN1 (fun hlen => ?_) | refine zN2 (fun hlen => ?_) | refine zAl (fun _ => ?_) | refine zBf ?_)
      exact ⟨k + 1, ⟨hk', he⟩, by omega, x_wkd 0 ⟨rfl, trivial⟩ rfl (by repeat (first | exact ag_refl | refine ag_upd rfl ?_ | refine ag_at rfl rfl ?_))⟩
    · rw [if_pos (of_decide_eq_true d1)] at he
      repeat (first | refine gG ?_ | refine zN1 (fun hlen => ?_) | refine zN2 (fun hlen => ?_) | refine zAl (fun _ => ?_) | refine zBf ?_)
      refine zIx k hk' ?_
      repeat (first | refine gG ?_ | refine zN1 (fun hlen => ?_) | refine zN2 (fun hlen => ?_) | refine zAl (fun _ => ?_) | refine zBf ?_)
      refine zEl ht rfl ?_
      repeat (first | refine gG ?_ | refine zN1 (fun hlen => ?_) | refine zN2 (fun hlen => ?_) | refine zAl (fun _ => ?_) | refine zBf ?_)
      first | refine zR ?_ | refine zQ ?_
      rw [he]; rfl
  · have hk' : k = br.length := by have : ¬ k < br.length := by simpa using h
                                   omega
    subst hk'
    rw [List.drop_length] at he
    repeat (first | refine gG ?_ | refine zN1 (fun hlen => ?_) | refine zN2 (fun hlen => ?_) | refine zAl (fun _ => ?_) | refine zBf ?_)
    first | refine zR ?_ | refine zQ ?_
    rw [he]; rfl
set_option maxRecDepth 100000 in
set_option maxHeartbeats 1000000 in
theorem behind_af (s : Se) (m : Int) : AF Tryd.prog 28 [s.t, iL m] (· = iL (nxS s.br m)) := by
  obtain ⟨kd, br⟩ := s
  refine af_enter tok Tryd.func28 Tryd.ntmps28 Tryd.results28 rfl (by kernel_rfl) rfl rfl fun F hX => ?_
  repeat (first | refine gG ?_ | refine zN1 (fun hlen => ?_) | refine zN2 (fun hlen => ?_) | refine zAl (fun _ => ?_) | refine zBf ?_)
  refine x_loop [4, 6, 10, 11, 12, 13, 14, 15, 16, 17, 18, 19, 20] (fun k : Nat => [(10, .c (iL (k : Nat)))]) (fun _ => []) (fun k => k ≤ br.length ∧ nxS br m = nxS (br.drop k) m) (fun k => br.length - k) 0 ⟨Nat.zero_le _, rfl⟩ ⟨rfl, trivial⟩ rfl ?_
  rintro k ⟨hk, he⟩
  repeat (first | refine gG ?_ | refine zN1 (fun hlen => ?_) | refine zN2 (fun hlen => ?_) | refine zAl (fun _ => ?_) | refine zBf ?_)
  refine x_cond rfl (fun h => ?_) (fun h => ?_)
  · have hk' : k < br.length := by simpa using h
    obtain ⟨⟨a, x⟩, hp⟩ := nth hk'
    have ht := pr_at hp
    rw [nx_drop hp] at he
    clear h
    cases d1 : decide (a = m)
    · rw [if_neg (of_decide_eq_false d1)] at he
      repeat (first | refine gG ?_ | refine zN1 (fun hlen => ?_) | refine zN2 (fun hlen => ?_) | refine zAl (fun _ => ?_) | refine zBf ?_)
      refine zIx k hk' ?_
      repeat (first | refine gG ?_ | refine zN1 (fun hlen => ?_) | refine zN2 (fun hlen => ?_) | refine zAl (fun _ => ?_) | refine zBf ?_)
      refine zEl ht rfl ?_
      repeat (first | refine zIxb 0 ?_ | refine zIxb 1 ?_ | refine zIxb 2 ?_ | refine gG ?_ | refine zN1 (fun hlen => ?_) | refine zN2 (fun hlen => ?_) | refine zAl (fun _ => ?_) | refine zBf ?_ | refine zAp (fun _ => ?_))
      exact ⟨k + 1, ⟨hk', he⟩, by omega, x_wkd 0 ⟨rfl, trivial⟩ rfl (by repeat (first | exact ag_refl | refine ag_upd rfl ?_ | refine ag_at rfl rfl ?_))⟩
    · rw [if_pos (of_decide_eq_true d1)] at he
      repeat (first | refine gG ?_ | refine zN1 (fun hlen => ?_) | refine zN2 (fun hlen => ?_) | refine zAl (fun _ => ?_) | refine zBf ?_)
      refine zIx k hk' ?_
      repeat (first | refine gG ?_ | refine zN1 (fun hlen => ?_) | refine zN2 (fun hlen => ?_) | refine zAl (fun _ => ?_) | refine zBf ?_)
      refine zEl ht rfl ?_
      repeat (first | refine zIxb 0 ?_ | refine zIxb 1 ?_ | refine zIxb 2 ?_ | refine gG ?_ | refine zN1 (fun hlen => ?_) | refine zN2 (fun hlen => ?_) | refine zAl (fun _ => ?_) | refine zBf ?_ | refine zAp (fun _ => ?_))
      first | refine zR ?_ | refine zQ ?_
      rw [he]; rfl
  · have hk' : k = br.length := by have : ¬ k < br.length := by simpa using h
                                   omega
    subst hk'
    rw [List.drop_length] at he
    repeat (first | refine gG ?_ | refine zN1 (fun hlen => ?_) | refine zN2 (fun hlen => ?_) | refine zAl (fun _ => ?_) | refine zBf ?_)
    first | refine zR ?_ | refine zQ ?_
    rw [he]; rfl
end Go.Proofs.YthloejmmgdjimaaDoor
namespace Go.Proofs.YthloejmmgdjimaaDoor
def goR (f : Nat → Nat → Bool) (x y : Se) : Bool := decide (x.kind = y.kind) && ((if x.kind = 2 then y else x).br.all fun r => decide (0 ≤ nxS (if x.kind = 2 then x else y).br r.1) && f (nxS x.br r.1).toNat (nxS y.br r.1).toNat)
def relF (f : Nat → Nat → Bool) (p : Int × Int) : Prop := f p.1.toNat p.2.toNat = true
theorem goR_good {a b : List Se} (ha : LOk a) (hb : LOk b) {f : Nat → Nat → Bool} {p : Int × Int} (h1 : inR a p.1) (h2 : inR b p.2) : goR f (stAt a p.1) (stAt b p.2) = true ↔ Good a b (relF f) p := by
  have sa := ha.at h1.1 h1.2
  have sb := hb.at h2.1 h2.2
  unfold goR Good relF
  generalize stAt a p.1 = x at *
  generalize stAt b p.2 = y at *
  rw [Bool.and_eq_true, decide_eq_true_iff, List.all_eq_true]
  by_cases k2 : x.kind = 2
  · rw [if_pos k2, if_pos k2]
    simp only [Bool.and_eq_true, decide_eq_true_iff]
    constructor
    · rintro ⟨e, h⟩
      refine ⟨e, fun e1 => by omega, fun _ z hz => (h z hz).1, fun z hz hn => ?_⟩
      obtain ⟨w, hw, e1, e2⟩ := nx_nn hn
      have := (h w hw).2
      rw [nx_mem sb.srt hw, e1, nx_mem sa.srt hz, e2] at this
      exact this
    · rintro ⟨e, _, h3, h4⟩
      refine ⟨e, fun r hr => ⟨h3 k2 r hr, ?_⟩⟩
      obtain ⟨w, hw, e1, e2⟩ := nx_nn (h3 k2 r hr)
      have hn : nxS y.br w.1 = r.2 := by rw [e1]; exact nx_mem sb.srt hr
      have := h4 w hw (by rw [hn]; exact (sb.rng r hr).2.2.1)
      rw [hn, e2] at this
      rw [nx_mem sb.srt hr]
      exact this
  · rw [if_neg k2, if_neg k2]
    simp only [Bool.and_eq_true, decide_eq_true_iff]
    constructor
    · rintro ⟨e, h⟩
      refine ⟨e, fun _ z hz => (h z hz).1, fun e2 => absurd e2 k2, fun z hz _ => ?_⟩
      have := (h z hz).2
      rw [nx_mem sa.srt hz] at this
      exact this
    · rintro ⟨e, h2, _, h4⟩
      refine ⟨e, fun r hr => ?_⟩
      have k1 : x.kind = 1 := by
        have := sa.k1
        have := sa.k3
        by_cases k3 : x.kind = 3
        · have := sa.e3 k3
          rw [this] at hr; simp at hr
        · omega
      have hn := h2 k1 r hr
      refine ⟨hn, ?_⟩
      rw [nx_mem sa.srt hr]
      exact h4 r hr hn
def updF (f : Nat → Nat → Bool) (i k : Nat) (v : Bool) : Nat → Nat → Bool := fun a b => if a = i ∧ b = k then v else f a b
def cntF (f : Nat → Nat → Bool) : Nat := (List.range 256).countP fun n => f (n / 16) (n % 16)
theorem cnt_strike {f : Nat → Nat → Bool} {i k : Nat} (hi : i < 16) (hk : k < 16) (h : f i k = true) : cntF (updF f i k false) < cntF f := by
  refine countP_lt (fun n _ hn => ?_) (i * 16 + k) (List.mem_range.2 (by omega)) ?_ ?_
  · unfold updF at hn
    split at hn
    · cases hn
    · exact hn
  · rw [show (i * 16 + k) / 16 = i by omega, show (i * 16 + k) % 16 = k by omega]; exact h
  · rw [show (i * 16 + k) / 16 = i by omega, show (i * 16 + k) % 16 = k by omega]
    unfold updF; rw [if_pos ⟨rfl, rfl⟩]
/-- what is never struck -/
def KeepF (a b : List Se) (f : Nat → Nat → Bool) : Prop := ∀ i k : Nat, i < a.length → k < b.length → SubP a b ((i : Int), (k : Int)) → f i k = true
theorem keep_strike {a b : List Se} (ha : LOk a) (hb : LOk b) {f : Nat → Nat → Bool} (h : KeepF a b f) {i k : Nat} (hi : i < a.length) (hk : k < b.length) (hg : goR f (stAt a (i : Nat)) (stAt b (k : Nat)) = false) : KeepF a b (updF f i k false) := fun i' k' hi' hk' hs => by
  unfold updF
  split
  · rename_i e
    obtain ⟨rfl, rfl⟩ := e
    exfalso
    have hg2 : Good a b (relF f) ((i' : Int), (k' : Int)) := by
      have g := sub_good hs
      have sa := ha.at (i := (i' : Int)) (by omega) (by omega)
      have sb := hb.at (i := (k' : Int)) (by omega) (by omega)
      refine ⟨g.1, g.2.1, g.2.2.1, fun z hz hn => ?_⟩
      have r1 := sa.rng z hz
      have r2 := nx_lt (n := (b.length : Nat)) (by omega) (l := (stAt b (k' : Nat)).br) (k := z.1) (fun z hz => ⟨(sb.rng z hz).2.2.1, (sb.rng z hz).2.2.2⟩)
      have hs' := g.2.2.2 z hz hn
      dsimp only at hs' hn ⊢
      unfold relF
      dsimp only
      refine h _ _ (by omega) (by omega) ?_
      rw [Int.toNat_of_nonneg r1.2.2.1, Int.toNat_of_nonneg hn]
      exact hs'
    have := (goR_good ha hb (p := ((i' : Int), (k' : Int))) ⟨by dsimp only; omega, by dsimp only; omega⟩ ⟨by dsimp only; omega, by dsimp only; omega⟩).2 hg2
    dsimp only at this
    rw [hg] at this
    cases this
  · exact h i' k' hi' hk' hs
theorem below_end {a b : List Se} (ha : LOk a) (hb : LOk b) {f : Nat → Nat → Bool} (h : KeepF a b f) (hg : ∀ i k : Nat, i < a.length → k < b.length → f i k = true → goR f (stAt a (i : Nat)) (stAt b (k : Nat)) = true) : subB a b = f 0 0 := by
  rw [Bool.eq_iff_iff, subB_t]
  have ha1 := ha.n1
  have hb1 := hb.n1
  constructor
  · exact fun hs => h 0 0 (by omega) (by omega) hs
  · intro h0
    refine ⟨fun p => inR a p.1 ∧ inR b p.2 ∧ relF f p, ⟨⟨by dsimp only; omega, by dsimp only; omega⟩, ⟨by dsimp only; omega, by dsimp only; omega⟩, h0⟩, ?_⟩
    rintro ⟨p1, p2⟩ ⟨r1, r2, hf⟩
    dsimp only at r1 r2
    have q1 := r1.1
    have q2 := r1.2
    have q3 := r2.1
    have q4 := r2.2
    unfold relF at hf
    dsimp only at hf
    have g := hg p1.toNat p2.toNat (by omega) (by omega) hf
    rw [Int.toNat_of_nonneg q1, Int.toNat_of_nonneg q3] at g
    have g := (goR_good ha hb (p := (p1, p2)) r1 r2).1 g
    have sa := ha.at q1 q2
    have sb := hb.at q3 q4
    refine ⟨g.1, g.2.1, g.2.2.1, fun z hz hn => ⟨ha.nx r1 hz, ⟨hn, ?_⟩, g.2.2.2 z hz hn⟩⟩
    exact (nx_lt (n := (b.length : Nat)) (by omega) (l := (stAt b p2).br) (k := z.1) (fun z hz => ⟨(sb.rng z hz).2.2.1, (sb.rng z hz).2.2.2⟩)).2
def fillF (nb i k : Nat) : Nat → Nat → Bool := fun a b => decide (a < i ∧ b < nb ∨ a = i ∧ b < k)
theorem fill_set (nb i k : Nat) : updF (fillF nb i k) i k true = fillF nb i (k + 1) := by
  funext a b
  unfold updF fillF
  split
  · exact (decide_eq_true (by omega)).symm
  · rw [decide_eq_decide]; omega
theorem fill_next (nb i : Nat) : fillF nb i nb = fillF nb (i + 1) 0 := by
  funext a b
  unfold fillF
  rw [decide_eq_decide]; omega
theorem fill_zero (nb : Nat) : fillF nb 0 0 = fun _ _ => false := by
  funext a b
  unfold fillF
  exact decide_eq_false (by omega)
theorem fill_keep (a b : List Se) : KeepF a b (fillF b.length a.length 0) := fun i k hi hk _ => decide_eq_true (by omega)
/-- one pass: what is known so far, from what it began with -/
structure PInv (a b : List Se) (f0 : Nat → Nat → Bool) (f : Nat → Nat → Bool) (again : Bool) (i k : Nat) : Prop where
  keep : KeepF a b f
  no : again = false → f = f0 ∧ ∀ i' k', (i' < i ∨ i' = i ∧ k' < k) → i' < a.length → k' < b.length → f i' k' = true → goR f (stAt a (i' : Nat)) (stAt b (k' : Nat)) = true
  yes : again = true → cntF f < cntF f0
theorem pinv0 {a b : List Se} {f : Nat → Nat → Bool} (h : KeepF a b f) : PInv a b f f false 0 0 := ⟨h, fun _ => ⟨rfl, fun i' k' h => by omega⟩, fun h => by cases h⟩
theorem pinv_row {a b : List Se} {f0 f : Nat → Nat → Bool} {g : Bool} {i : Nat} (h : PInv a b f0 f g i b.length) : PInv a b f0 f g (i + 1) 0 := ⟨h.keep, fun e => ⟨(h.no e).1, fun i' k' hi ha hb => (h.no e).2 i' k' (by omega) ha hb⟩, h.yes⟩
theorem pinv_stay {a b : List Se} {f0 f : Nat → Nat → Bool} {g : Bool} {i k : Nat} (h : PInv a b f0 f g i k) (hs : f i k = true → goR f (stAt a (i : Nat)) (stAt b (k : Nat)) = true) : PInv a b f0 f g i (k + 1) := ⟨h.keep, fun e => ⟨(h.no e).1, fun i' k' hi ha hb hf => by
  by_cases hk : i' = i ∧ k' = k
  · obtain ⟨rfl, rfl⟩ := hk
    exact hs hf
  · exact (h.no e).2 i' k' (by omega) ha hb hf⟩, h.yes⟩
theorem pinv_strike {a b : List Se} (ha : LOk a) (hb : LOk b) {f0 f : Nat → Nat → Bool} {g : Bool} {i k : Nat} (h : PInv a b f0 f g i k) (hi : i < a.length) (hk : k < b.length) (hf : f i k = true) (hg : goR f (stAt a (i : Nat)) (stAt b (k : Nat)) = false) : PInv a b f0 (updF f i k false) true i (k + 1) := by
  have h1 := ha.n16
  have h2 := hb.n16
  have hc := cnt_strike (f := f) (i := i) (k := k) (by omega) (by omega) hf
  refine ⟨keep_strike ha hb h.keep hi hk hg, fun e => (by cases e), fun _ => ?_⟩
  cases g with
  | false => rw [← (h.no rfl).1]; exact hc
  | true => exact Nat.lt_trans hc (h.yes rfl)
theorem pinv_end {a b : List Se} (ha : LOk a) (hb : LOk b) {f0 f : Nat → Nat → Bool} (h : PInv a b f0 f false a.length 0) : subB a b = f 0 0 := below_end ha hb h.keep fun i k hi hk hf => (h.no rfl).2 i k (by omega) hi hk hf
end Go.Proofs.YthloejmmgdjimaaDoor
namespace Go.Proofs.YthloejmmgdjimaaDoor
open Go.RowKit
section
variable {P : Program} {F : Frm} {L : Tab} {d : Option Tmp} {ty : TypeId} {pos : String} {aft : Array Edge} {g : Option (Nat × Bool)} {ρ : Operand → AV} {hp : List Blk} {K : AV → List Blk → Prop}
theorem lo_nebr {t t' : TypeId} {x y : Operand} {a b r : Bool} (hr : (!decide (a = b)) = r) (h : K (.c (.lit (.bool r))) hp) (hx : ρ x = .c (.lit (.bool a)) := by exact rfl) (hy : ρ y = .c (.lit (.bool b)) := by exact rfl) (hu : isBool P t = true := by kernel_rfl) : LO P F ⟨d, .binOp .neq t x y t', ty, pos, aft, g⟩ ρ hp K :=
  zB6 (hr ▸ h) hx hy hu
end
theorem br_drop {n last : Int} {l : List (Int × Int)} {k : Nat} {m x : Int} (h : l[k]? = some (m, x)) : brErr n last (l.drop k) = if m < 0 ∨ 20 < m ∨ x < 0 ∨ n ≤ x then 1 else if m ≤ last then 3 else brErr n m (l.drop (k + 1)) := by
  obtain ⟨h1, h2⟩ := List.getElem?_eq_some_iff.1 h
  rw [List.drop_eq_getElem_cons h1, h2]
  rfl
theorem se_drop {n : Int} {l : List Se} {k : Nat} {s : Se} (h : l[k]? = some s) : seErrL n (l.drop k) = if stErr n s ≠ 0 then stErr n s else seErrL n (l.drop (k + 1)) := by
  obtain ⟨h1, h2⟩ := List.getElem?_eq_some_iff.1 h
  rw [List.drop_eq_getElem_cons h1, h2]
  rfl
set_option maxRecDepth 100000 in
set_option maxHeartbeats 4000000 in
theorem checkState_af (s : Se) (n : Int) : AF Tryd.prog 22 [s.t, iL n] (· = iL (stErr n s)) := by
  obtain ⟨kd, br⟩ := s
  unfold stErr
  dsimp only
  by_cases c1 : kd < 1
  · have d1 : decide (kd < 1) = true := decide_eq_true c1
    rw [if_pos (.inl c1)]
    refine af_enter tok Tryd.func22 Tryd.ntmps22 Tryd.results22 rfl (by kernel_rfl) rfl rfl fun F hX => ?_
    repeat (first | refine gG ?_ | refine zN1 (fun hlen => ?_) | refine zN2 (fun hlen => ?_) | refine zAl (fun _ => ?_) | refine zBf ?_)
    first | refine zR ?_ | refine zQ ?_
    rfl
  have d1 : decide (kd < 1) = false := decide_eq_false c1
  by_cases c2 : 3 < kd
  · have d2 : decide (kd > 3) = true := decide_eq_true c2
    rw [if_pos (.inr (.inl c2))]
    refine af_enter tok Tryd.func22 Tryd.ntmps22 Tryd.results22 rfl (by kernel_rfl) rfl rfl fun F hX => ?_
    repeat (first | refine gG ?_ | refine zN1 (fun hlen => ?_) | refine zN2 (fun hlen => ?_) | refine zAl (fun _ => ?_) | refine zBf ?_)
    first | refine zR ?_ | refine zQ ?_
    rfl
  have d2 : decide (kd > 3) = false := decide_eq_false c2
  have eL : decide (((br.length : Nat) : Int) = 0) = decide (br.length = 0) := by rw [Bool.eq_iff_iff, decide_eq_true_iff, decide_eq_true_iff]; omega
  by_cases c3 : decide (kd = 3) ≠ decide (br.length = 0)
  · rw [if_pos (.inr (.inr c3))]
    have hr : (!decide (decide (kd = 3) = decide (br.length = 0))) = true := by rw [decide_eq_false c3]; rfl
    rw [← eL] at hr
    clear c3 eL
    refine af_enter tok Tryd.func22 Tryd.ntmps22 Tryd.results22 rfl (by kernel_rfl) rfl rfl fun F hX => ?_
    repeat (first | refine gG ?_ | refine zN1 (fun hlen => ?_) | refine zN2 (fun hlen => ?_) | refine zAl (fun _ => ?_) | refine zBf ?_)
    refine lo_nebr hr ?_
    repeat (first | refine gG ?_ | refine zN1 (fun hlen => ?_) | refine zN2 (fun hlen => ?_) | refine zAl (fun _ => ?_) | refine zBf ?_)
    first | refine zR ?_ | refine zQ ?_
    rfl
  rw [if_neg (fun h => by rcases h with h | h | h <;> contradiction)]
  have hr : (!decide (decide (kd = 3) = decide (br.length = 0))) = false := by rw [decide_eq_true (Classical.not_not.1 c3)]; rfl
  rw [← eL] at hr
  clear c3 eL
  by_cases c4 : 6 < br.length
  · have d4 : decide (((br.length : Nat) : Int) > 6) = true := decide_eq_true (by omega)
    rw [if_pos c4]
    refine af_enter tok Tryd.func22 Tryd.ntmps22 Tryd.results22 rfl (by kernel_rfl) rfl rfl fun F hX => ?_
    repeat (first | refine gG ?_ | refine zN1 (fun hlen => ?_) | refine zN2 (fun hlen => ?_) | refine zAl (fun _ => ?_) | refine zBf ?_)
    refine lo_nebr hr ?_
    repeat (first | refine gG ?_ | refine zN1 (fun hlen => ?_) | refine zN2 (fun hlen => ?_) | refine zAl (fun _ => ?_) | refine zBf ?_)
    first | refine zR ?_ | refine zQ ?_
    rfl
  have d4 : decide (((br.length : Nat) : Int) > 6) = false := decide_eq_false (by omega)
  rw [if_neg c4]
  refine af_enter tok Tryd.func22 Tryd.ntmps22 Tryd.results22 rfl (by kernel_rfl) rfl rfl fun F hX => ?_
  repeat (first | refine gG ?_ | refine zN1 (fun hlen => ?_) | refine zN2 (fun hlen => ?_) | refine zAl (fun _ => ?_) | refine zBf ?_)
  refine lo_nebr hr ?_
  repeat (first | refine gG ?_ | refine zN1 (fun hlen => ?_) | refine zN2 (fun hlen => ?_) | refine zAl (fun _ => ?_) | refine zBf ?_)
  generalize hE : brErr n (-1) br = e
  refine x_loop [4, 5, 7, 35, 36, 37, 38, 39, 40, 41, 42, 43, 44, 45, 46, 47, 48, 49, 50, 51, 52, 53, 54, 55, 56, 57, 58, 59, 60, 61, 62, 63, 64, 65, 66] (fun q : Nat × Int => [(5, .c (iL q.2)), (35, .c (iL (q.1 : Nat)))]) (fun _ => []) (fun q => q.1 ≤ br.length ∧ brErr n q.2 (br.drop q.1) = e) (fun q => br.length - q.1) (0, -1) ⟨Nat.zero_le _, hE⟩ ⟨rfl, rfl, trivial⟩ rfl ?_
  rintro ⟨k, last⟩ ⟨hk, he⟩
  dsimp only at hk he ⊢
  repeat (first | refine gG ?_ | refine zN1 (fun hlen => ?_) | refine zN2 (fun hlen => ?_) | refine zAl (fun _ => ?_) | refine zBf ?_)
  refine x_cond rfl (fun h => ?_) (fun h => ?_)
  · have hk' : k < br.length := by simpa using h
    obtain ⟨⟨m, x⟩, hp⟩ := nth hk'
    have ht := pr_at hp
    rw [br_drop hp] at he
    clear h hE
    repeat (first | refine gG ?_ | refine zN1 (fun hlen => ?_) | refine zN2 (fun hlen => ?_) | refine zAl (fun _ => ?_) | refine zBf ?_)
    refine zIx k hk' ?_
    repeat (first | refine gG ?_ | refine zN1 (fun hlen => ?_) | refine zN2 (fun hlen => ?_) | refine zAl (fun _ => ?_) | refine zBf ?_)
    refine zEl ht rfl ?_
    by_cases e1 : m < 0
    · have f1 : decide (m < 0) = true := decide_eq_true e1
      rw [if_pos (.inl e1)] at he
      repeat (first | refine gG ?_ | refine zN1 (fun hlen => ?_) | refine zN2 (fun hlen => ?_) | refine zAl (fun _ => ?_) | refine zBf ?_)
      first | refine zR ?_ | refine zQ ?_
      rw [← he]; rfl
    have f1 : decide (m < 0) = false := decide_eq_false e1
    by_cases e2 : 20 < m
    · have f2 : decide (m > 20) = true := decide_eq_true e2
      rw [if_pos (.inr (.inl e2))] at he
      repeat (first | refine gG ?_ | refine zN1 (fun hlen => ?_) | refine zN2 (fun hlen => ?_) | refine zAl (fun _ => ?_) | refine zBf ?_)
      first | refine zR ?_ | refine zQ ?_
      rw [← he]; rfl
    have f2 : decide (m > 20) = false := decide_eq_false e2
    by_cases e3 : x < 0
    · have f3 : decide (x < 0) = true := decide_eq_true e3
      rw [if_pos (.inr (.inr (.inl e3)))] at he
      repeat (first | refine gG ?_ | refine zN1 (fun hlen => ?_) | refine zN2 (fun hlen => ?_) | refine zAl (fun _ => ?_) | refine zBf ?_)
      first | refine zR ?_ | refine zQ ?_
      rw [← he]; rfl
    have f3 : decide (x < 0) = false := decide_eq_false e3
    by_cases e4 : n ≤ x
    · have f4 : decide (x ≥ n) = true := decide_eq_true e4
      rw [if_pos (.inr (.inr (.inr e4)))] at he
      repeat (first | refine gG ?_ | refine zN1 (fun hlen => ?_) | refine zN2 (fun hlen => ?_) | refine zAl (fun _ => ?_) | refine zBf ?_)
      first | refine zR ?_ | refine zQ ?_
      rw [← he]; rfl
    have f4 : decide (x ≥ n) = false := decide_eq_false e4
    rw [if_neg (by omega)] at he
    by_cases e5 : m ≤ last
    · have f5 : decide (m ≤ last) = true := decide_eq_true e5
      rw [if_pos e5] at he
      repeat (first | refine gG ?_ | refine zN1 (fun hlen => ?_) | refine zN2 (fun hlen => ?_) | refine zAl (fun _ => ?_) | refine zBf ?_)
      first | refine zR ?_ | refine zQ ?_
      rw [← he]; rfl
    have f5 : decide (m ≤ last) = false := decide_eq_false e5
    rw [if_neg e5] at he
    repeat (first | refine gG ?_ | refine zN1 (fun hlen => ?_) | refine zN2 (fun hlen => ?_) | refine zAl (fun _ => ?_) | refine zBf ?_)
    exact ⟨(k + 1, m), ⟨hk', he⟩, by dsimp only; omega, x_wkd 0 ⟨rfl, rfl, trivial⟩ rfl (by repeat (first | exact ag_refl | refine ag_upd rfl ?_ | refine ag_at rfl rfl ?_))⟩
  · have hk' : k = br.length := by have : ¬ k < br.length := by simpa using h
                                   omega
    subst hk'
    rw [List.drop_length] at he
    repeat (first | refine gG ?_ | refine zN1 (fun hlen => ?_) | refine zN2 (fun hlen => ?_) | refine zAl (fun _ => ?_) | refine zBf ?_)
    first | refine zR ?_ | refine zQ ?_
    rw [← he]; rfl
set_option maxRecDepth 100000 in
set_option maxHeartbeats 4000000 in
theorem check_af (l : List Se) : AF Tryd.prog 11 [seRow l] (· = iL (seErr l)) := by
  unfold seErr
  by_cases c1 : l.length < 1
  · have d1 : decide (((l.length : Nat) : Int) < 1) = true := decide_eq_true (by omega)
    rw [if_pos (.inl c1)]
    refine af_enter tok Tryd.func11 Tryd.ntmps11 Tryd.results11 rfl (by kernel_rfl) rfl rfl fun F hX => ?_
    repeat (first | refine gG ?_ | refine zN1 (fun hlen => ?_) | refine zN2 (fun hlen => ?_) | refine zAl (fun _ => ?_))
    first | refine zR ?_ | refine zQ ?_
    rfl
  have d1 : decide (((l.length : Nat) : Int) < 1) = false := decide_eq_false (by omega)
  by_cases c2 : 16 < l.length
  · have d2 : decide (((l.length : Nat) : Int) > 16) = true := decide_eq_true (by omega)
    rw [if_pos (.inr c2)]
    refine af_enter tok Tryd.func11 Tryd.ntmps11 Tryd.results11 rfl (by kernel_rfl) rfl rfl fun F hX => ?_
    repeat (first | refine gG ?_ | refine zN1 (fun hlen => ?_) | refine zN2 (fun hlen => ?_) | refine zAl (fun _ => ?_))
    first | refine zR ?_ | refine zQ ?_
    rfl
  have d2 : decide (((l.length : Nat) : Int) > 16) = false := decide_eq_false (by omega)
  rw [if_neg (by omega)]
  generalize hE : seErrL (l.length : Nat) l = e
  refine af_enter tok Tryd.func11 Tryd.ntmps11 Tryd.results11 rfl (by kernel_rfl) rfl rfl fun F hX => ?_
  repeat (first | refine gG ?_ | refine zN1 (fun hlen => ?_) | refine zN2 (fun hlen => ?_) | refine zAl (fun _ => ?_))
  refine x_loop [2, 4, 5, 16, 17, 18, 19, 20, 21, 22, 23, 24, 25, 26, 27] (fun k : Nat => [(16, .c (iL (k : Nat)))]) (fun _ => []) (fun k => k ≤ l.length ∧ seErrL (l.length : Nat) (l.drop k) = e) (fun k => l.length - k) 0 ⟨Nat.zero_le _, hE⟩ ⟨rfl, trivial⟩ rfl ?_
  rintro k ⟨hk, he⟩
  repeat (first | refine gG ?_ | refine zN1 (fun hlen => ?_) | refine zN2 (fun hlen => ?_) | refine zAl (fun _ => ?_))
  refine x_cond rfl (fun h => ?_) (fun h => ?_)
  · have hk' : k < l.length := by simpa using h
    obtain ⟨s, hs⟩ := nth hk'
    have ht := se_at hs
    have hc := checkState_af s (l.length : Nat)
    rw [se_drop hs] at he
    clear h hE
    generalize stErr (l.length : Nat) s = z at *
    by_cases e1 : z = 0
    · have f1 : (!decide (z = 0)) = false := by rw [decide_eq_true e1]; rfl
      rw [if_neg (fun h => h e1)] at he
      repeat (first | refine gG ?_ | refine zN1 (fun hlen => ?_) | refine zN2 (fun hlen => ?_) | refine zAl (fun _ => ?_))
      refine zIx k hk' ?_
      repeat (first | refine gG ?_ | refine zN1 (fun hlen => ?_) | refine zN2 (fun hlen => ?_) | refine zAl (fun _ => ?_))
      refine zEl ht rfl ?_
      repeat (first | refine gG ?_ | refine zN1 (fun hlen => ?_) | refine zN2 (fun hlen => ?_) | refine zAl (fun _ => ?_))
      refine zCall (hc) ?_
      rintro _ rfl
      repeat (first | refine gG ?_ | refine zN1 (fun hlen => ?_) | refine zN2 (fun hlen => ?_) | refine zAl (fun _ => ?_))
      exact ⟨k + 1, ⟨hk', he⟩, by omega, x_wkd 0 ⟨rfl, trivial⟩ rfl (by repeat (first | exact ag_refl | refine ag_upd rfl ?_ | refine ag_at rfl rfl ?_))⟩
    · have f1 : (!decide (z = 0)) = true := by rw [decide_eq_false e1]; rfl
      rw [if_pos e1] at he
      repeat (first | refine gG ?_ | refine zN1 (fun hlen => ?_) | refine zN2 (fun hlen => ?_) | refine zAl (fun _ => ?_))
      refine zIx k hk' ?_
      repeat (first | refine gG ?_ | refine zN1 (fun hlen => ?_) | refine zN2 (fun hlen => ?_) | refine zAl (fun _ => ?_))
      refine zEl ht rfl ?_
      repeat (first | refine gG ?_ | refine zN1 (fun hlen => ?_) | refine zN2 (fun hlen => ?_) | refine zAl (fun _ => ?_))
      refine zCall (hc) ?_
      rintro _ rfl
      repeat (first | refine gG ?_ | refine zN1 (fun hlen => ?_) | refine zN2 (fun hlen => ?_) | refine zAl (fun _ => ?_))
      first | refine zR ?_ | refine zQ ?_
      rw [← he]; rfl
  · have hk' : k = l.length := by have : ¬ k < l.length := by simpa using h
                                  omega
    subst hk'
    rw [List.drop_length] at he
    repeat (first | refine gG ?_ | refine zN1 (fun hlen => ?_) | refine zN2 (fun hlen => ?_) | refine zAl (fun _ => ?_))
    first | refine zR ?_ | refine zQ ?_
    rw [← he]; rfl
end Go.Proofs.YthloejmmgdjimaaDoor
namespace Go.Proofs.YthloejmmgdjimaaDoor
open Go.RowKit
def okT (f : Nat → Nat → Bool) : List T := (List.range 256).map fun n => T.lit (.bool (f (n / 16) (n % 16)))
theorem okT_get (f : Nat → Nat → Bool) {i k : Nat} (hi : i < 16) (hk : k < 16) {o : Nat} (ho : o = i * 16 + k) : (okT f)[o]? = some (.lit (.bool (f i k))) := by
  subst ho
  unfold okT
  rw [List.getElem?_map, List.getElem?_range (by omega)]
  simp only [Option.map_some]
  rw [show (i * 16 + k) / 16 = i by omega, show (i * 16 + k) % 16 = k by omega]
theorem okT_len (f : Nat → Nat → Bool) : (okT f).length = 256 := by simp [okT]
theorem all_drop {α : Type} {p : α → Bool} {l : List α} {k : Nat} {a : α} (h : l[k]? = some a) : (l.drop k).all p = (p a && (l.drop (k + 1)).all p) := by
  obtain ⟨h1, rfl⟩ := List.getElem?_eq_some_iff.1 h
  rw [List.drop_eq_getElem_cons h1]
  rfl
section
variable {P : Program} {F : Frm} {L : Tab} {d : Option Tmp} {ty : TypeId} {pos : String} {aft : Array Edge} {g : Option (Nat × Bool)} {ρ : Operand → AV} {hp : List Blk} {K : AV → List Blk → Prop}
theorem zIxq {t el : TypeId} {ti te : TI} {x y : Operand} {cs : List T} {off n : Nat} {k : IntKind} {z : Int} (j : Nat) (hj : j < n) (h : K (.c (.pin cs (off + j * te.size))) hp) (hz : z = (j : Int) := by exact rfl) (hL : TabOk P L := by exact tok) (hx : ρ x = .c (.pin cs off) := by exact rfl) (hy : ρ y = .c (.lit (.int k z)) := by exact rfl) (ht : L.look t = some ti := by exact rfl) (hd : ti.d = .array n el := by exact rfl) (hte : L.look el = some te := by exact rfl) : LO P F ⟨d, .indexAddr t x y, ty, pos, aft, g⟩ ρ hp K := lo_idx_pin hL j hx hy hz hj ht hd hte h
theorem zIxr {t el : TypeId} {ti te : TI} {x y : Operand} {i b off n : Nat} {k : IntKind} {z : Int} (j : Nat) (hj : j < n) (h : K (.ptr i b (off + j * te.size)) hp) (hz : z = (j : Int) := by exact rfl) (hL : TabOk P L := by exact tok) (hx : ρ x = .ptr i b off := by exact rfl) (hy : ρ y = .c (.lit (.int k z)) := by exact rfl) (ht : L.look t = some ti := by exact rfl) (hd : ti.d = .array n el := by exact rfl) (hte : L.look el = some te := by exact rfl) : LO P F ⟨d, .indexAddr t x y, ty, pos, aft, g⟩ ρ hp K := lo_idx_box hL j hx hy hz hj ht hd hte h
/-- a cell of a variable written, where its cells are not written out -/
theorem zStB {t : TypeId} {ti : TI} {x y : Operand} {i b off : Nat} {tb : TypeId} {cs cs' : List AV} {u : Value} (hs : cs.set off (.c (.lit u)) = cs') (hb : off + 1 ≤ cs.length) (h : K (.c (.lit undef)) (hp.set i (.box b tb cs'))) (hL : TabOk P L := by exact tok) (hx : ρ x = .ptr i b off := by exact rfl) (hi : hp[i]? = some (.box b tb cs) := by exact rfl) (hv : ρ y = .c (.lit u) := by exact rfl) (ht : L.look t = some ti := by exact rfl) (h1 : allOne (cellsA (.c (.lit u))) = true := by exact rfl) (hl : (cellsA (.c (.lit u))).length = ti.size := by exact rfl) : LO P F ⟨d, .store t x y, ty, pos, aft, g⟩ ρ hp K := by
  refine lo_store hL hx hi hv ht h1 hl (Nat.ble_eq_true_of_le (by rw [← hl]; exact hb)) ?_
  rw [show spl cs off (cellsA (.c (.lit u))) = cs' from hs]
  exact h
end
set_option maxRecDepth 100000 in
set_option maxHeartbeats 8000000 in
theorem goesOn_af (f : Nat → Nat → Bool) (n m : Int) (x y : Se) (hx : SOk n x) (hy : SOk m y) (hn : n ≤ 16) (hm : m ≤ 16) : AF Tryd.prog 29 [.pin (okT f) 0, x.t, y.t] (· = .lit (.bool (goR f x y))) := by
  have hbx := behind_af x
  have hby := behind_af y
  have nlx := fun k => nx_lt (n := 16) (by omega) (l := x.br) (k := k) (fun z hz => by have := hx.rng z hz; omega)
  have nly := fun k => nx_lt (n := 16) (by omega) (l := y.br) (k := k) (fun z hz => by have := hy.rng z hz; omega)
  have fx := fun {z : Int × Int} (hz : z ∈ x.br) => nx_mem hx.srt hz
  have fy := fun {z : Int × Int} (hz : z ∈ y.br) => nx_mem hy.srt hz
  have rx := fun {z : Int × Int} (hz : z ∈ x.br) => (hx.rng z hz).2.2.1
  have ry := fun {z : Int × Int} (hz : z ∈ y.br) => (hy.rng z hz).2.2.1
  unfold goR
  obtain ⟨kx, bx⟩ := x
  obtain ⟨ky, by_⟩ := y
  dsimp only at *
  by_cases hk : kx = ky
  rotate_left
  · have d1 : (!decide (kx = ky)) = true := by rw [decide_eq_false hk]; rfl
    rw [decide_eq_false hk, Bool.false_and]
    refine af_enter tok Tryd.func29 Tryd.ntmps29 Tryd.results29 rfl (by kernel_rfl) rfl rfl fun F hX => ?_
    repeat (first | refine gG ?_ | refine zN1 (fun hlen => ?_) | refine zN2 (fun hlen => ?_) | refine zAl (fun _ => ?_) | refine zBf ?_)
    first | refine zR ?_ | refine zQ ?_
    rfl
  have d1 : (!decide (kx = ky)) = false := by rw [decide_eq_true hk]; rfl
  rw [decide_eq_true hk, Bool.true_and]
  obtain ⟨few, hfw⟩ : ∃ s : Se, s = if kx = 2 then ⟨ky, by_⟩ else ⟨kx, bx⟩ := ⟨_, rfl⟩
  obtain ⟨many, hmn⟩ : ∃ s : Se, s = if kx = 2 then ⟨kx, bx⟩ else ⟨ky, by_⟩ := ⟨_, rfl⟩
  rw [← hfw, ← hmn]
  have hpos : ∀ r ∈ few.br, 0 ≤ nxS many.br r.1 → 0 ≤ nxS bx r.1 ∧ 0 ≤ nxS by_ r.1 := fun r hr hn => by
    by_cases e : kx = 2
    · rw [if_pos e] at hfw hmn
      subst hfw hmn
      dsimp only at *
      exact ⟨hn, by rw [fy hr]; exact ry hr⟩
    · rw [if_neg e] at hfw hmn
      subst hfw hmn
      dsimp only at *
      exact ⟨by rw [fx hr]; exact rx hr, hn⟩
  have hbm := behind_af many
  clear hx hy fx fy rx ry hk
  refine af_enter tok Tryd.func29 Tryd.ntmps29 Tryd.results29 rfl (by kernel_rfl) rfl rfl fun F hX => ?_
  repeat (first | refine gG ?_ | refine zN1 (fun hlen => ?_) | refine zN2 (fun hlen => ?_) | refine zAl (fun _ => ?_) | refine zBf ?_)
  refine x_join [7, 8, 16, 17] (fun a : Nat × Nat => [(7, .ptr 0 a.1 0), (8, .ptr 1 a.2 0)]) (fun a => [.box a.1 59 [.c (iL kx), .c (.row bx.length 2 (bx.flatMap prTs))], .box a.2 59 [.c (iL ky), .c (.row by_.length 2 (by_.flatMap prTs))]]) (fun a => ?_) ?_
  rotate_left
  · skip
    refine ac_drawT3 [0, 0, 3, 3, 2, 2] (.fork [0, 1] 2 (.fin [3, 4, 5]) 3 (.fin [2, 4, 5])) (by kernel_rfl) (by kernel_rfl) ?_
    refine wtt_fork ?_
    refine gW ?_
    refine w_nil ?_
    refine ⟨?_, ?_⟩
    · apply w_a; (focus exact rfl); (focus exact rfl); refine v_alloc tok rfl rfl rfl (fun _ => rfl) (fun _ => ⟨⟨_, rfl⟩, ?_⟩)
      refine w_nil ?_
      refine wtt_fin ?_
      apply w_a; (focus exact rfl); (focus exact rfl); refine v_alloc tok rfl rfl rfl (fun _ => rfl) (fun _ => ⟨⟨_, rfl⟩, ?_⟩)
      apply w_l; (focus exact rfl); (focus exact rfl); (refine zS ?_)
      apply w_l; (focus exact rfl); (focus exact rfl); (refine zS ?_)
      refine w_nil ?_
      first | exact ⟨(_, _), x_wkd 2 ⟨rfl, rfl, trivial⟩ rfl (by repeat (first | exact ag_refl | refine ag_upd rfl ?_ | refine ag_at rfl rfl ?_))⟩ | exact ⟨(_, _), Wk.trans (wk_as 7 (.ptr 0 _ 0) re_ptr) (Wk.trans (wk_as 8 (.ptr 1 _ 0) re_ptr) (Wk.trans (wk_pick [1, 0] rfl rfl) (x_wk ⟨rfl, rfl, trivial⟩ rfl (by repeat (first | exact ag_refl | refine ag_upd rfl ?_ | refine ag_at rfl rfl ?_)))))⟩
    · apply w_a; (focus exact rfl); (focus exact rfl); refine v_alloc tok rfl rfl rfl (fun _ => rfl) (fun _ => ⟨⟨_, rfl⟩, ?_⟩)
      refine w_nil ?_
      refine wtt_fin ?_
      apply w_a; (focus exact rfl); (focus exact rfl); refine v_alloc tok rfl rfl rfl (fun _ => rfl) (fun _ => ⟨⟨_, rfl⟩, ?_⟩)
      apply w_l; (focus exact rfl); (focus exact rfl); (refine zS ?_)
      apply w_l; (focus exact rfl); (focus exact rfl); (refine zS ?_)
      refine w_nil ?_
      first | exact ⟨(_, _), x_wkd 2 ⟨rfl, rfl, trivial⟩ rfl (by repeat (first | exact ag_refl | refine ag_upd rfl ?_ | refine ag_at rfl rfl ?_))⟩ | exact ⟨(_, _), Wk.trans (wk_as 7 (.ptr 0 _ 0) re_ptr) (Wk.trans (wk_as 8 (.ptr 1 _ 0) re_ptr) (Wk.trans (wk_pick [1, 0] rfl rfl) (x_wk ⟨rfl, rfl, trivial⟩ rfl (by repeat (first | exact ag_refl | refine ag_upd rfl ?_ | refine ag_at rfl rfl ?_)))))⟩
  refine ac_seq ?_
  refine x_join (7 :: 8 :: [18, 19, 20, 21, 22]) (fun _ : Unit => [(7, .c (.pin (Se.ts few) 0)), (8, .c (.pin (Se.ts many) 0))]) (fun _ => []) (fun _ => ?_) ?_
  rotate_left
  · cases d2 : decide (kx = 2)
    · rw [if_neg (of_decide_eq_false d2)] at hfw hmn
      subst hfw hmn
      repeat (first | refine gG ?_ | refine zN1 (fun hlen => ?_) | refine zN2 (fun hlen => ?_) | refine zAl (fun _ => ?_) | refine zBx (fun _ => ?_))
      exact ⟨(), Wk.trans (wk_frzq 7 (Se.ts ⟨kx, bx⟩) rfl rfl (by repeat (first | exact rzs_nil | apply rzs_cons | exact rz_c | exact rz_nil rfl | apply rz_agg | exact rz_own rfl | apply rz_fn | exact rz_ptr rfl | apply rz_tup)) rfl rfl) (Wk.trans (wk_frzq 8 (Se.ts ⟨ky, by_⟩) rfl rfl (by repeat (first | exact rzs_nil | apply rzs_cons | exact rz_c | exact rz_nil rfl | apply rz_agg | exact rz_own rfl | apply rz_fn | exact rz_ptr rfl | apply rz_tup)) rfl rfl) (x_wkd 0 ⟨rfl, rfl, trivial⟩ rfl (by repeat (first | exact ag_refl | refine ag_upd rfl ?_ | refine ag_at rfl rfl ?_))))⟩
    · rw [if_pos (of_decide_eq_true d2)] at hfw hmn
      subst hfw hmn
      repeat (first | refine gG ?_ | refine zN1 (fun hlen => ?_) | refine zN2 (fun hlen => ?_) | refine zAl (fun _ => ?_) | refine zBx (fun _ => ?_))
      refine ac_drawT3 [0, 0, 2, 2] (.fin [0, 1, 2, 3]) (by kernel_rfl) (by kernel_rfl) ?_
      refine wtt_fin ?_
      refine gW ?_
      apply w_l; (focus exact rfl); (focus exact rfl); (refine zS ?_)
      apply w_l; (focus exact rfl); (focus exact rfl); (refine zS ?_)
      refine w_nil ?_
      exact ⟨(), Wk.trans (wk_frzq 7 (Se.ts ⟨ky, by_⟩) rfl rfl (by repeat (first | exact rzs_nil | apply rzs_cons | exact rz_c | exact rz_nil rfl | apply rz_agg | exact rz_own rfl | apply rz_fn | exact rz_ptr rfl | apply rz_tup)) rfl rfl) (Wk.trans (wk_frzq 8 (Se.ts ⟨kx, bx⟩) rfl rfl (by repeat (first | exact rzs_nil | apply rzs_cons | exact rz_c | exact rz_nil rfl | apply rz_agg | exact rz_own rfl | apply rz_fn | exact rz_ptr rfl | apply rz_tup)) rfl rfl) (x_wkd 0 ⟨rfl, rfl, trivial⟩ rfl (by repeat (first | exact ag_refl | refine ag_upd rfl ?_ | refine ag_at rfl rfl ?_))))⟩
  clear hfw hmn d1
  obtain ⟨kf, bf⟩ := few
  obtain ⟨km, bm⟩ := many
  dsimp only at hpos hbm ⊢
  repeat (first | refine gG ?_ | refine zN1 (fun hlen => ?_) | refine zN2 (fun hlen => ?_) | refine zAl (fun _ => ?_) | refine zBx (fun _ => ?_))
  generalize hE : (bf.all fun r => decide (0 ≤ nxS bm r.1) && f (nxS bx r.1).toNat (nxS by_ r.1).toNat) = e
  refine x_loop [6, 10, 26, 27, 28, 29, 30, 31, 32, 33, 34, 35, 36, 37, 38, 39, 40, 41, 42, 43, 44, 45, 46, 47, 48, 49, 50, 51] (fun k : Nat => [(26, .c (iL (k : Nat)))]) (fun _ => []) (fun k => k ≤ bf.length ∧ ((bf.drop k).all fun r => decide (0 ≤ nxS bm r.1) && f (nxS bx r.1).toNat (nxS by_ r.1).toNat) = e) (fun k => bf.length - k) 0 ⟨Nat.zero_le _, hE⟩ ⟨rfl, trivial⟩ rfl ?_
  rintro k ⟨hk, he⟩
  repeat (first | refine gG ?_ | refine zN1 (fun hlen => ?_) | refine zN2 (fun hlen => ?_) | refine zAl (fun _ => ?_) | refine zBx (fun _ => ?_))
  refine x_cond rfl (fun h => ?_) (fun h => ?_)
  · have hk' : k < bf.length := by simpa using h
    obtain ⟨⟨r, z⟩, hr⟩ := nth hk'
    have htr := pr_at hr
    have hps := hpos _ (List.mem_of_getElem? hr)
    rw [all_drop hr] at he
    have h1 := hbm r
    have h2 := hbx r
    have h3 := hby r
    have n2 := nlx r
    have n3 := nly r
    clear h hE hr hpos hbm hbx hby nlx nly
    dsimp only at hps he
    generalize nxS bm r = u1 at *
    generalize nxS bx r = u2 at *
    generalize nxS by_ r = u3 at *
    by_cases hu : 0 ≤ u1
    rotate_left
    · have d3 : decide (u1 < 0) = true := decide_eq_true (by omega)
      rw [decide_eq_false hu, Bool.false_and, Bool.false_and] at he
      subst he
      repeat (first | refine gG ?_ | refine zN1 (fun hlen => ?_) | refine zN2 (fun hlen => ?_) | refine zAl (fun _ => ?_) | refine zBx (fun _ => ?_))
      refine zIx k hk' ?_
      repeat (first | refine gG ?_ | refine zN1 (fun hlen => ?_) | refine zN2 (fun hlen => ?_) | refine zAl (fun _ => ?_) | refine zBx (fun _ => ?_))
      refine zEl htr rfl ?_
      repeat (first | refine gG ?_ | refine zN1 (fun hlen => ?_) | refine zN2 (fun hlen => ?_) | refine zAl (fun _ => ?_) | refine zBx (fun _ => ?_))
      refine ac_drawB [0, 0, 2, 7, 15, 31, 63, 63, 63, 319, 959, 63, 63, 4159, 16319, 127, 34815, 131071, 262143, 524287, 1048575] [1, 1, 1, 1, 1, 1, 1, 1, 1, 1, 1, 1, 1, 1, 1, 1, 1, 1, 1, 1, 1] [0, 1, 2, 3, 4, 5, 6, 7, 8, 9, 10, 11, 12, 13, 14, 15, 16, 17, 18, 19, 20] (by kernel_rfl) (by kernel_rfl) ?_
      refine gW ?_
      apply w_q; (focus exact rfl); (focus exact rfl); focus (intro _; (refine zIxb 0 ?_); exact det_refl)
      refine gW ?_
      apply w_q; (focus exact rfl); (focus exact rfl); focus (intro _; (refine zCall h1 ?_; rintro _ rfl); exact det_refl)
      refine gW ?_
      refine w_nil ?_
      repeat (first | refine gG ?_ | refine zN1 (fun hlen => ?_) | refine zN2 (fun hlen => ?_) | refine zAl (fun _ => ?_) | refine zBx (fun _ => ?_))
      first | refine zR ?_ | refine zQ ?_
      rfl
    have d3 : decide (u1 < 0) = false := decide_eq_false (by omega)
    obtain ⟨i, rfl⟩ : ∃ i : Nat, u2 = (i : Int) := ⟨u2.toNat, by have := (hps hu).1; omega⟩
    obtain ⟨j, rfl⟩ : ∃ j : Nat, u3 = (j : Int) := ⟨u3.toNat, by have := (hps hu).2; omega⟩
    have hi : i < 16 := by omega
    have hj : j < 16 := by omega
    rw [decide_eq_true hu, Bool.true_and, Int.toNat_natCast, Int.toNat_natCast] at he
    clear hps n2 n3 hu
    have hgv := okT_get f hi hj (o := 0 + i * 16 + j * 1) (by omega)
    cases hf : f i j
    · rw [hf, Bool.false_and] at he
      rw [hf] at hgv
      subst he
      repeat (first | refine gG ?_ | refine zN1 (fun hlen => ?_) | refine zN2 (fun hlen => ?_) | refine zAl (fun _ => ?_) | refine zBx (fun _ => ?_))
      refine zIx k hk' ?_
      repeat (first | refine gG ?_ | refine zN1 (fun hlen => ?_) | refine zN2 (fun hlen => ?_) | refine zAl (fun _ => ?_) | refine zBx (fun _ => ?_))
      refine zEl htr rfl ?_
      repeat (first | refine gG ?_ | refine zN1 (fun hlen => ?_) | refine zN2 (fun hlen => ?_) | refine zAl (fun _ => ?_) | refine zBx (fun _ => ?_))
      refine ac_drawB [0, 0, 2, 7, 15, 31, 63, 63, 63, 319, 959, 63, 63, 4159, 16319, 127, 34815, 131071, 262143, 524287, 1048575] [1, 1, 1, 1, 1, 1, 1, 1, 1, 1, 1, 1, 1, 1, 1, 1, 1, 1, 1, 1, 1] [0, 1, 2, 3, 4, 5, 6, 7, 8, 9, 10, 11, 12, 13, 14, 15, 16, 17, 18, 19, 20] (by kernel_rfl) (by kernel_rfl) ?_
      refine gW ?_
      apply w_q; (focus exact rfl); (focus exact rfl); focus (intro _; (refine zIxb 0 ?_); exact det_refl)
      refine gW ?_
      apply w_q; (focus exact rfl); (focus exact rfl); focus (intro _; (refine zCall h1 ?_; rintro _ rfl); exact det_refl)
      refine gW ?_
      try (first | (apply w_un; (focus exact rfl); (focus exact rfl); (focus exact rfl); (focus exact rfl)) | (apply w_no; (focus exact rfl); (focus exact rfl); (focus exact rfl); (focus exact rfl); focus (first | rfl | assumption | exact neg_t (by assumption) | exact neg_f (by assumption))) | (apply w_qg; (focus exact rfl); (focus exact rfl); (focus exact rfl); (focus exact rfl); (focus (first | rfl | assumption | exact neg_t (by assumption) | exact neg_f (by assumption))); (focus (intro _; (refine zIxb 0 ?_); exact det_refl))))
      try refine gW ?_
      try (first | (apply w_un; (focus exact rfl); (focus exact rfl); (focus exact rfl); (focus exact rfl)) | (apply w_no; (focus exact rfl); (focus exact rfl); (focus exact rfl); (focus exact rfl); focus (first | rfl | assumption | exact neg_t (by assumption) | exact neg_f (by assumption))) | (apply w_qg; (focus exact rfl); (focus exact rfl); (focus exact rfl); (focus exact rfl); (focus (first | rfl | assumption | exact neg_t (by assumption) | exact neg_f (by assumption))); (focus (intro _; (refine zCall h2 ?_; rintro _ rfl); exact det_refl))))
      try refine gW ?_
      try (first | (apply w_un; (focus exact rfl); (focus exact rfl); (focus exact rfl); (focus exact rfl)) | (apply w_no; (focus exact rfl); (focus exact rfl); (focus exact rfl); (focus exact rfl); focus (first | rfl | assumption | exact neg_t (by assumption) | exact neg_f (by assumption))) | (apply w_qg; (focus exact rfl); (focus exact rfl); (focus exact rfl); (focus exact rfl); (focus (first | rfl | assumption | exact neg_t (by assumption) | exact neg_f (by assumption))); (focus (intro _; (refine zIxb 0 ?_); exact det_refl))))
      try refine gW ?_
      try (first | (apply w_un; (focus exact rfl); (focus exact rfl); (focus exact rfl); (focus exact rfl)) | (apply w_no; (focus exact rfl); (focus exact rfl); (focus exact rfl); (focus exact rfl); focus (first | rfl | assumption | exact neg_t (by assumption) | exact neg_f (by assumption))) | (apply w_qg; (focus exact rfl); (focus exact rfl); (focus exact rfl); (focus exact rfl); (focus (first | rfl | assumption | exact neg_t (by assumption) | exact neg_f (by assumption))); (focus (intro _; (refine zCall h3 ?_; rintro _ rfl); exact det_refl))))
      try refine gW ?_
      try (first | (apply w_un; (focus exact rfl); (focus exact rfl); (focus exact rfl); (focus exact rfl)) | (apply w_no; (focus exact rfl); (focus exact rfl); (focus exact rfl); (focus exact rfl); focus (first | rfl | assumption | exact neg_t (by assumption) | exact neg_f (by assumption))) | (apply w_qg; (focus exact rfl); (focus exact rfl); (focus exact rfl); (focus exact rfl); (focus (first | rfl | assumption | exact neg_t (by assumption) | exact neg_f (by assumption))); (focus (intro _; (refine zIxq i hi ?_); exact det_refl))))
      (first | (apply w_un; (focus exact rfl); (focus exact rfl); (focus exact rfl); (focus exact rfl)) | (apply w_no; (focus exact rfl); (focus exact rfl); (focus exact rfl); (focus exact rfl); focus (first | rfl | assumption | exact neg_t (by assumption) | exact neg_f (by assumption))) | (apply w_qg; (focus exact rfl); (focus exact rfl); (focus exact rfl); (focus exact rfl); (focus (first | rfl | assumption | exact neg_t (by assumption) | exact neg_f (by assumption))); (focus (intro _; (refine zIxq j hj ?_); exact det_refl))))
      (first | (apply w_un; (focus exact rfl); (focus exact rfl); (focus exact rfl); (focus exact rfl)) | (apply w_no; (focus exact rfl); (focus exact rfl); (focus exact rfl); (focus exact rfl); focus (first | rfl | assumption | exact neg_t (by assumption) | exact neg_f (by assumption))) | (apply w_qg; (focus exact rfl); (focus exact rfl); (focus exact rfl); (focus exact rfl); (focus (first | rfl | assumption | exact neg_t (by assumption) | exact neg_f (by assumption))); (focus (intro _; (refine zEl1 hgv ?_); exact det_refl))))
      try refine gW ?_
      refine w_nil ?_
      repeat (first | refine gG ?_ | refine zN1 (fun hlen => ?_) | refine zN2 (fun hlen => ?_) | refine zAl (fun _ => ?_) | refine zBx (fun _ => ?_))
      first | refine zR ?_ | refine zQ ?_
      rfl
    · rw [hf, Bool.true_and] at he
      rw [hf] at hgv
      repeat (first | refine gG ?_ | refine zN1 (fun hlen => ?_) | refine zN2 (fun hlen => ?_) | refine zAl (fun _ => ?_) | refine zBx (fun _ => ?_))
      refine zIx k hk' ?_
      repeat (first | refine gG ?_ | refine zN1 (fun hlen => ?_) | refine zN2 (fun hlen => ?_) | refine zAl (fun _ => ?_) | refine zBx (fun _ => ?_))
      refine zEl htr rfl ?_
      repeat (first | refine gG ?_ | refine zN1 (fun hlen => ?_) | refine zN2 (fun hlen => ?_) | refine zAl (fun _ => ?_) | refine zBx (fun _ => ?_))
      refine ac_drawB [0, 0, 2, 7, 15, 31, 63, 63, 63, 319, 959, 63, 63, 4159, 16319, 127, 34815, 131071, 262143, 524287, 1048575] [1, 1, 1, 1, 1, 1, 1, 1, 1, 1, 1, 1, 1, 1, 1, 1, 1, 1, 1, 1, 1] [0, 1, 2, 3, 4, 5, 6, 7, 8, 9, 10, 11, 12, 13, 14, 15, 16, 17, 18, 19, 20] (by kernel_rfl) (by kernel_rfl) ?_
      refine gW ?_
      apply w_q; (focus exact rfl); (focus exact rfl); focus (intro _; (refine zIxb 0 ?_); exact det_refl)
      refine gW ?_
      apply w_q; (focus exact rfl); (focus exact rfl); focus (intro _; (refine zCall h1 ?_; rintro _ rfl); exact det_refl)
      refine gW ?_
      try (first | (apply w_un; (focus exact rfl); (focus exact rfl); (focus exact rfl); (focus exact rfl)) | (apply w_no; (focus exact rfl); (focus exact rfl); (focus exact rfl); (focus exact rfl); focus (first | rfl | assumption | exact neg_t (by assumption) | exact neg_f (by assumption))) | (apply w_qg; (focus exact rfl); (focus exact rfl); (focus exact rfl); (focus exact rfl); (focus (first | rfl | assumption | exact neg_t (by assumption) | exact neg_f (by assumption))); (focus (intro _; (refine zIxb 0 ?_); exact det_refl))))
      try refine gW ?_
      try (first | (apply w_un; (focus exact rfl); (focus exact rfl); (focus exact rfl); (focus exact rfl)) | (apply w_no; (focus exact rfl); (focus exact rfl); (focus exact rfl); (focus exact rfl); focus (first | rfl | assumption | exact neg_t (by assumption) | exact neg_f (by assumption))) | (apply w_qg; (focus exact rfl); (focus exact rfl); (focus exact rfl); (focus exact rfl); (focus (first | rfl | assumption | exact neg_t (by assumption) | exact neg_f (by assumption))); (focus (intro _; (refine zCall h2 ?_; rintro _ rfl); exact det_refl))))
      try refine gW ?_
      try (first | (apply w_un; (focus exact rfl); (focus exact rfl); (focus exact rfl); (focus exact rfl)) | (apply w_no; (focus exact rfl); (focus exact rfl); (focus exact rfl); (focus exact rfl); focus (first | rfl | assumption | exact neg_t (by assumption) | exact neg_f (by assumption))) | (apply w_qg; (focus exact rfl); (focus exact rfl); (focus exact rfl); (focus exact rfl); (focus (first | rfl | assumption | exact neg_t (by assumption) | exact neg_f (by assumption))); (focus (intro _; (refine zIxb 0 ?_); exact det_refl))))
      try refine gW ?_
      try (first | (apply w_un; (focus exact rfl); (focus exact rfl); (focus exact rfl); (focus exact rfl)) | (apply w_no; (focus exact rfl); (focus exact rfl); (focus exact rfl); (focus exact rfl); focus (first | rfl | assumption | exact neg_t (by assumption) | exact neg_f (by assumption))) | (apply w_qg; (focus exact rfl); (focus exact rfl); (focus exact rfl); (focus exact rfl); (focus (first | rfl | assumption | exact neg_t (by assumption) | exact neg_f (by assumption))); (focus (intro _; (refine zCall h3 ?_; rintro _ rfl); exact det_refl))))
      try refine gW ?_
      try (first | (apply w_un; (focus exact rfl); (focus exact rfl); (focus exact rfl); (focus exact rfl)) | (apply w_no; (focus exact rfl); (focus exact rfl); (focus exact rfl); (focus exact rfl); focus (first | rfl | assumption | exact neg_t (by assumption) | exact neg_f (by assumption))) | (apply w_qg; (focus exact rfl); (focus exact rfl); (focus exact rfl); (focus exact rfl); (focus (first | rfl | assumption | exact neg_t (by assumption) | exact neg_f (by assumption))); (focus (intro _; (refine zIxq i hi ?_); exact det_refl))))
      (first | (apply w_un; (focus exact rfl); (focus exact rfl); (focus exact rfl); (focus exact rfl)) | (apply w_no; (focus exact rfl); (focus exact rfl); (focus exact rfl); (focus exact rfl); focus (first | rfl | assumption | exact neg_t (by assumption) | exact neg_f (by assumption))) | (apply w_qg; (focus exact rfl); (focus exact rfl); (focus exact rfl); (focus exact rfl); (focus (first | rfl | assumption | exact neg_t (by assumption) | exact neg_f (by assumption))); (focus (intro _; (refine zIxq j hj ?_); exact det_refl))))
      (first | (apply w_un; (focus exact rfl); (focus exact rfl); (focus exact rfl); (focus exact rfl)) | (apply w_no; (focus exact rfl); (focus exact rfl); (focus exact rfl); (focus exact rfl); focus (first | rfl | assumption | exact neg_t (by assumption) | exact neg_f (by assumption))) | (apply w_qg; (focus exact rfl); (focus exact rfl); (focus exact rfl); (focus exact rfl); (focus (first | rfl | assumption | exact neg_t (by assumption) | exact neg_f (by assumption))); (focus (intro _; (refine zEl1 hgv ?_); exact det_refl))))
      try refine gW ?_
      refine w_nil ?_
      repeat (first | refine gG ?_ | refine zN1 (fun hlen => ?_) | refine zN2 (fun hlen => ?_) | refine zAl (fun _ => ?_) | refine zBx (fun _ => ?_))
      exact ⟨k + 1, ⟨hk', he⟩, by omega, x_wkd 0 ⟨rfl, trivial⟩ rfl (by repeat (first | exact ag_refl | refine ag_upd rfl ?_ | refine ag_at rfl rfl ?_))⟩
  · have hk' : k = bf.length := by have : ¬ k < bf.length := by simpa using h
                                   omega
    subst hk'
    rw [List.drop_length] at he
    rw [← he]
    clear hE he
    repeat (first | refine gG ?_ | refine zN1 (fun hlen => ?_) | refine zN2 (fun hlen => ?_) | refine zAl (fun _ => ?_) | refine zBx (fun _ => ?_))
    first | refine zR ?_ | refine zQ ?_
    rfl
end Go.Proofs.YthloejmmgdjimaaDoor
