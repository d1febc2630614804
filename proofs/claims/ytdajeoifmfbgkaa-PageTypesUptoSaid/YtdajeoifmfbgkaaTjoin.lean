/-
  strings.Join by the shelf's contract (laid by the kit's tool at this seat's dump).
-/
import Derived.Test.YtdajeoifmfbgkaaProg
import Derived.Shelf.Strings.OnBuilder
namespace Go.Proofs.Ytdajeoifmfbgkaa
open Go.Shelf

def joinRen : Go.Shelf.Ren := ⟨fun | 156 => 107 | 165 => 146 | 166 => 147 | 169 => 148 | 240 => 166 | 241 => 167 | 276 => 176 | 277 => 177 | n => n, fun | 31 => 30 | 9 => 9 | 3 => 3 | 4 => 4 | 0 => 0 | 20 => 20 | 72 => 295 | 76 => 298 | 70 => 293 | 37 => 22 | 75 => 297 | 127 => 321 | 164 => 329 | 5 => 5 | 80 => 300 | n => n, fun | n => n⟩
theorem joinLays : Go.Proofs.Lays.n156 Try.prog joinRen := {
  mixed := by kernel_rfl
  f156 := Try.func107.trans (congrArg some (by kernel_rfl))
  f165 := Try.func146.trans (congrArg some (by kernel_rfl))
  f166 := Try.func147.trans (congrArg some (by kernel_rfl))
  f169 := Try.func148.trans (congrArg some (by kernel_rfl))
  f240 := Try.func166.trans (congrArg some (by kernel_rfl))
  f241 := Try.func167.trans (congrArg some (by kernel_rfl))
  f276 := Try.func176.trans (congrArg some (by kernel_rfl))
  f277 := Try.func177.trans (congrArg some (by kernel_rfl))
  t0 := Try.underlying0
  a0 := Try.isAgg0
  z0 := Try.sizeOf0
  v0 := Try.zeroValue0
  t3 := Try.underlying3
  a3 := Try.isAgg3
  z3 := Try.sizeOf3
  v3 := Try.zeroValue3
  t4 := Try.underlying4
  a4 := Try.isAgg4
  z4 := Try.sizeOf4
  v4 := Try.zeroValue4
  t9 := Try.underlying9
  a9 := Try.isAgg9
  z9 := Try.sizeOf9
  v9 := Try.zeroValue9
  t20 := Try.underlying20
  a20 := Try.isAgg20
  z20 := Try.sizeOf20
  v20 := Try.zeroValue20
  t31 := Try.underlying30
  a31 := Try.isAgg30
  z31 := Try.sizeOf30
  v31 := Try.zeroValue30
  t37 := Try.underlying22
  a37 := Try.isAgg22
  z37 := Try.sizeOf22
  v37 := Try.zeroValue22
  t70 := Try.underlying293
  a70 := Try.isAgg293
  z70 := Try.sizeOf293
  v70 := Try.zeroValue293
  t72 := Try.underlying295
  a72 := Try.isAgg295
  z72 := Try.sizeOf295
  v72 := Try.zeroValue295
  t75 := Try.underlying297
  a75 := Try.isAgg297
  z75 := Try.sizeOf297
  v75 := Try.zeroValue297
  t76 := Try.underlying298
  a76 := Try.isAgg298
  z76 := Try.sizeOf298
  v76 := Try.zeroValue298
  t127 := Try.underlying321
  a127 := Try.isAgg321
  z127 := Try.sizeOf321
  v127 := Try.zeroValue321
  t164 := Try.underlying329
  a164 := Try.isAgg329
  z164 := Try.sizeOf329
  v164 := Try.zeroValue329 }
theorem joinExtra : Builder.Extra Try.prog joinRen := {
  sizeBuilder := by kernel_rfl
  liesBuilder := by kernel_rfl
  t5 := Try.underlying5
  a5 := Try.isAgg5
  z5 := Try.sizeOf5
  v5 := Try.zeroValue5
  infoByte := by kernel_rfl
  cellsByte := by kernel_rfl
  sizeByte := by kernel_rfl
  neB5 := by decide }
open Go.RowKit in

theorem join_none_calls (a : Option Addr) (c : Nat) (sep : ByteArray) (w : World) :
    Calls Try.prog 107 #[.slice a 0 c, .string sep] w fun e w' => e = .returned (.string ⟨#[]⟩) ∧ w' = w := Any.strings_Join_none joinLays joinExtra a c sep w
open Go.RowKit in

theorem join_calls (bk o c : Nat) (xs : List ByteArray) (sep : ByteArray) (w : World) (hcells : ∀ (j : Nat) x, xs[j]? = some x → w.cell? ⟨bk, o + j, none⟩ = some (.string x)) (hbk : bk < w.heap.size) (hN : xs.length ≤ 140737488355328) (hcap : xs.length ≤ c) (hlen : (Lib.join (xs.map (·.data.toList)) sep.data.toList).length ≤ 140737488355328) :
    Calls Try.prog 107 #[.slice (some ⟨bk, o, none⟩) xs.length c, .string sep] w fun e w' => e = .returned (.string ⟨(Lib.join (xs.map (·.data.toList)) sep.data.toList).toArray⟩) ∧ Below w.heap.size w w' := Any.strings_Join joinLays joinExtra bk o c xs sep w hcells hbk hN hcap hlen

end Go.Proofs.Ytdajeoifmfbgkaa
