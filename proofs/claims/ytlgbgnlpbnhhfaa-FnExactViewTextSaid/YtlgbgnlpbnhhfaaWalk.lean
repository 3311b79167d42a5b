/-
  impl.SortAddrs walked: a fresh copy is sorted by the library's contract and compacted; its answer is an own new slice. Written by program (walksort.py).
-/
import Derived.Shelf.SlLaysF0
import Derived.Test.YtlgbgnlpbnhhfaaProg
import Derived.Shelf.Strings.Builder1
import Derived.Shelf.Strings.Builder2
import Derived.Shelf.Strings.OnBuilder
import Derived.Shelf.Small.Bits
import Derived.Shelf.Small.Strs
import Derived.Shelf.Strconv.Itoa0
import Derived.Ground.SlgnProg
import Derived.Shelf.SlicesE.Equal
import Derived.Test.YtlgbgnlpbnhhfaaAmExt3
import Derived.Test.YtlgbgnlpbnhhfaaAmComp
import Derived.Shelf.SlSortCmp.WholeK
import Derived.Deep.AppendLies
import Derived.Laws.StructEq
import Derived.RegionTactic
import Derived.WalkKit
section
namespace Go.Proofs
open Go.Shelf
def Try.sortAddr_ren : Go.Shelf.Ren := ⟨fun | 6 => 63 | 15 => 74 | 14 => 80 | 28 => 97 | 29 => 98 | 20 => 99 | 21 => 100 | 22 => 101 | 23 => 102 | 24 => 103 | 25 => 104 | 26 => 105 | 27 => 106 | 46 => 114 | 47 => 109 | 48 => 110 | 49 => 115 | 50 => 116 | 57 => 119 | n => n, fun | 22 => 46 | 24 => 50 | 25 => 105 | 3 => 3 | 39 => 120 | 0 => 0 | 53 => 148 | 55 => 150 | 4 => 4 | 46 => 140 | 45 => 139 | 50 => 145 | 5 => 5 | 9 => 9 | 66 => 156 | 70 => 160 | 76 => 164 | 77 => 165 | n => n, fun | n => n⟩
theorem Try.sortAddr : Go.Proofs.SlLaysF0.n6 Try.prog Try.sortAddr_ren := {
  mixed := by kernel_rfl
  f6 := ⟨Try.f63.name, by decide, Try.func63.trans (congrArg some (by kernel_rfl))⟩
  f14 := ⟨Try.f80.name, by decide, Try.func80.trans (congrArg some (by kernel_rfl))⟩
  f15 := Try.func74.trans (congrArg some (by kernel_rfl))
  f20 := ⟨Try.f99.name, by decide, Try.func99.trans (congrArg some (by kernel_rfl))⟩
  f21 := ⟨Try.f100.name, by decide, Try.func100.trans (congrArg some (by kernel_rfl))⟩
  f22 := ⟨Try.f101.name, by decide, Try.func101.trans (congrArg some (by kernel_rfl))⟩
  f23 := ⟨Try.f102.name, by decide, Try.func102.trans (congrArg some (by kernel_rfl))⟩
  f24 := ⟨Try.f103.name, by decide, Try.func103.trans (congrArg some (by kernel_rfl))⟩
  f25 := ⟨Try.f104.name, by decide, Try.func104.trans (congrArg some (by kernel_rfl))⟩
  f26 := ⟨Try.f105.name, by decide, Try.func105.trans (congrArg some (by kernel_rfl))⟩
  f27 := ⟨Try.f106.name, by decide, Try.func106.trans (congrArg some (by kernel_rfl))⟩
  f28 := Try.func97.trans (congrArg some (by kernel_rfl))
  f29 := Try.func98.trans (congrArg some (by kernel_rfl))
  f46 := ⟨Try.f114.name, by decide, Try.func114.trans (congrArg some (by kernel_rfl))⟩
  f47 := Try.func109.trans (congrArg some (by kernel_rfl))
  f48 := Try.func110.trans (congrArg some (by kernel_rfl))
  f49 := ⟨Try.f115.name, by decide, Try.func115.trans (congrArg some (by kernel_rfl))⟩
  f50 := ⟨Try.f116.name, by decide, Try.func116.trans (congrArg some (by kernel_rfl))⟩
  f57 := ⟨Try.f119.name, by decide, Try.func119.trans (congrArg some (by kernel_rfl))⟩
  t0 := Try.underlying0
  a0 := Try.isAgg0
  z0 := Try.sizeOf0
  v0 := Try.zeroValue0
  t3 := Try.underlying3
  a3 := Try.isAgg3
  z3 := Try.sizeOf3
  v3 := Try.zeroValue3
  t4 := Try.underlying4
  a4 := Try.isAgg4
  z4 := Try.sizeOf4
  v4 := Try.zeroValue4
  t5 := Try.underlying5
  a5 := Try.isAgg5
  z5 := Try.sizeOf5
  v5 := Try.zeroValue5
  t9 := Try.underlying9
  a9 := Try.isAgg9
  z9 := Try.sizeOf9
  v9 := Try.zeroValue9
  t22 := Try.underlying46
  a22 := Try.isAgg46
  z22 := Try.sizeOf46
  v22 := Try.zeroValue46
  t25 := Try.underlying105
  a25 := Try.isAgg105
  z25 := Try.sizeOf105
  v25 := Try.zeroValue105
  t39 := Try.underlying120
  a39 := Try.isAgg120
  z39 := Try.sizeOf120
  v39 := Try.zeroValue120
  t45 := Try.underlying139
  a45 := Try.isAgg139
  z45 := Try.sizeOf139
  v45 := Try.zeroValue139
  t46 := Try.underlying140
  a46 := Try.isAgg140
  z46 := Try.sizeOf140
  v46 := Try.zeroValue140
  t50 := Try.underlying145
  a50 := Try.isAgg145
  z50 := Try.sizeOf145
  v50 := Try.zeroValue145
  t53 := Try.underlying148
  a53 := Try.isAgg148
  z53 := Try.sizeOf148
  v53 := Try.zeroValue148
  t55 := Try.underlying150
  a55 := Try.isAgg150
  z55 := Try.sizeOf150
  v55 := Try.zeroValue150
  t66 := Try.underlying156
  a66 := Try.isAgg156
  z66 := Try.sizeOf156
  v66 := Try.zeroValue156
  t70 := Try.underlying160
  a70 := Try.isAgg160
  z70 := Try.sizeOf160
  v70 := Try.zeroValue160
  t76 := Try.underlying164
  a76 := Try.isAgg164
  z76 := Try.sizeOf164
  v76 := Try.zeroValue164
  t77 := Try.underlying165
  a77 := Try.isAgg165
  z77 := Try.sizeOf165
  v77 := Try.zeroValue165 }
end Go.Proofs
end
section
namespace Go.Proofs
open Go.Shelf
def Try.lays169_ren : Go.Shelf.Ren := ⟨fun | 169 => 48 | n => n, fun | 70 => 83 | 9 => 9 | 0 => 0 | 72 => 86 | 37 => 84 | 127 => 114 | 3 => 3 | 5 => 5 | n => n, fun | n => n⟩
theorem Try.lays169 : Go.Proofs.Lays.n169 Try.prog Try.lays169_ren := {
  mixed := by kernel_rfl
  f169 := Try.func48.trans (congrArg some (by kernel_rfl))
  t0 := Try.underlying0
  a0 := Try.isAgg0
  z0 := Try.sizeOf0
  v0 := Try.zeroValue0
  t3 := Try.underlying3
  a3 := Try.isAgg3
  z3 := Try.sizeOf3
  v3 := Try.zeroValue3
  t9 := Try.underlying9
  a9 := Try.isAgg9
  z9 := Try.sizeOf9
  v9 := Try.zeroValue9
  t37 := Try.underlying84
  a37 := Try.isAgg84
  z37 := Try.sizeOf84
  v37 := Try.zeroValue84
  t70 := Try.underlying83
  a70 := Try.isAgg83
  z70 := Try.sizeOf83
  v70 := Try.zeroValue83
  t72 := Try.underlying86
  a72 := Try.isAgg86
  z72 := Try.sizeOf86
  v72 := Try.zeroValue86
  t127 := Try.underlying114
  a127 := Try.isAgg114
  z127 := Try.sizeOf114
  v127 := Try.zeroValue114 }
theorem Try.Builder_Extra_169 : Builder.Extra Try.prog Try.lays169_ren := {
  sizeBuilder := by kernel_rfl
  liesBuilder := by kernel_rfl
  t5 := Try.underlying5
  a5 := Try.isAgg5
  z5 := Try.sizeOf5
  v5 := Try.zeroValue5
  infoByte := by kernel_rfl
  cellsByte := by kernel_rfl
  sizeByte := by kernel_rfl
  neB5 := by decide }
open Go.RowKit in
/-- (*strings.Builder).String: "String returns the accumulated string.": OF A BUILDER THAT HOLDS AT LEAST ONE BYTE. ✋ THE MODEL FREEZES THOSE BYTES IN THE BUFFER (unsafe.String): a later write INTO them ends the model's run without an answer; a later append BEHIND them goes on. The statement's order of evaluation is drawn: one draw. (LAID: no walk: one application.) -/
theorem Try.Builder_String (B b : Nat) (l : List UInt8) (w : World) (h : Lib.IsBuilder 86 5 B b (Lib.byteCells l) w) (h0 : l ≠ []) :
    Calls Try.prog 48 #[.pointer (some ⟨b, 0, none⟩)] w fun e w' => e = .returned (.string ⟨l.toArray⟩) ∧ Below B w w' := Any.Builder_String Try.lays169 Try.Builder_Extra_169 B b l w h h0
open Go.RowKit in
/-- (*strings.Builder).String OF A BUILDER THAT HOLDS NO BYTE: the empty string. (Its buffer is nil, or a row of which it has taken nothing yet; where that row has NO capacity the model lays one new block for unsafe.SliceData's 'some address'.) One draw. (LAID: no walk: one application.) -/
theorem Try.Builder_String_empty (B b : Nat) (w : World) (h : Lib.IsBuilder 86 5 B b [] w) (hBw : B ≤ w.heap.size) :
    Calls Try.prog 48 #[.pointer (some ⟨b, 0, none⟩)] w fun e w' => e = .returned (.string ⟨#[]⟩) ∧ Below B w w' := Any.Builder_String_empty Try.lays169 Try.Builder_Extra_169 B b w h hBw
open Go.RowKit in
/-- (*strings.Builder).String: "String returns the accumulated string.": WHATEVER THE BUILDER HOLDS. (LAID: no walk: one application.) -/
theorem Try.Builder_String_any (B b : Nat) (l : List UInt8) (w : World) (h : Lib.IsBuilder 86 5 B b (Lib.byteCells l) w) (hBw : B ≤ w.heap.size) :
    Calls Try.prog 48 #[.pointer (some ⟨b, 0, none⟩)] w fun e w' => e = .returned (.string ⟨l.toArray⟩) ∧ Below B w w' := Any.Builder_String_any Try.lays169 Try.Builder_Extra_169 B b l w h hBw
def Try.lays241_ren : Go.Shelf.Ren := ⟨fun | 241 => 68 | 277 => 84 | n => n, fun | 70 => 83 | 3 => 3 | 0 => 0 | 72 => 86 | 37 => 84 | 5 => 5 | n => n, fun | n => n⟩
theorem Try.lays241 : Go.Proofs.Lays.n241 Try.prog Try.lays241_ren := {
  mixed := by kernel_rfl
  f241 := Try.func68.trans (congrArg some (by kernel_rfl))
  f277 := Try.func84.trans (congrArg some (by kernel_rfl))
  t0 := Try.underlying0
  a0 := Try.isAgg0
  z0 := Try.sizeOf0
  v0 := Try.zeroValue0
  t3 := Try.underlying3
  a3 := Try.isAgg3
  z3 := Try.sizeOf3
  v3 := Try.zeroValue3
  t37 := Try.underlying84
  a37 := Try.isAgg84
  z37 := Try.sizeOf84
  v37 := Try.zeroValue84
  t70 := Try.underlying83
  a70 := Try.isAgg83
  z70 := Try.sizeOf83
  v70 := Try.zeroValue83
  t72 := Try.underlying86
  a72 := Try.isAgg86
  z72 := Try.sizeOf86
  v72 := Try.zeroValue86 }
theorem Try.Builder_Extra_241 : Builder.Extra Try.prog Try.lays241_ren := {
  sizeBuilder := by kernel_rfl
  liesBuilder := by kernel_rfl
  t5 := Try.underlying5
  a5 := Try.isAgg5
  z5 := Try.sizeOf5
  v5 := Try.zeroValue5
  infoByte := by kernel_rfl
  cellsByte := by kernel_rfl
  sizeByte := by kernel_rfl
  neB5 := by decide }
open Go.RowKit in
/-- (*strings.Builder).grow (no doc but "grow copies the buffer to a new, larger buffer so that there are at least n bytes of capacity beyond len(b.buf)."): AT A BUILDER WITHOUT A BUFFER: a new row of whatever bytes for its buffer, none of them its own yet. Three draws. (LAID: no walk: one application.) -/
theorem Try.Builder_grow_fresh (B b n : Nat) (w : World) (hB : B ≤ b) (hbk : w.heap[b]? = some (.cells #[.pointer (some ⟨b, 0, none⟩), .slice none 0 0] 86 (0, 0))) (hBw : B ≤ w.heap.size) (hn : n ≤ 281474976710656) :
    Calls Try.prog 68 #[.pointer (some ⟨b, 0, none⟩), .int .i64 n] w fun e w' => e = .returned (.tuple #[]) ∧ (Lib.BuilderAt 86 5 B b (.pointer (some ⟨b, 0, none⟩)) [] w' ∧ Below B w w') := Any.Builder_grow_fresh Try.lays241 Try.Builder_Extra_241 B b n w hB hbk hBw hn
def Try.lays165_ren : Go.Shelf.Ren := ⟨fun | 165 => 46 | 240 => 67 | 241 => 68 | 276 => 83 | 277 => 84 | n => n, fun | 70 => 83 | 3 => 3 | 0 => 0 | 4 => 4 | 9 => 9 | 20 => 20 | 72 => 86 | 37 => 84 | 164 => 132 | 5 => 5 | n => n, fun | n => n⟩
theorem Try.lays165 : Go.Proofs.Lays.n165 Try.prog Try.lays165_ren := {
  mixed := by kernel_rfl
  f165 := Try.func46.trans (congrArg some (by kernel_rfl))
  f240 := Try.func67.trans (congrArg some (by kernel_rfl))
  f241 := Try.func68.trans (congrArg some (by kernel_rfl))
  f276 := Try.func83.trans (congrArg some (by kernel_rfl))
  f277 := Try.func84.trans (congrArg some (by kernel_rfl))
  t0 := Try.underlying0
  a0 := Try.isAgg0
  z0 := Try.sizeOf0
  v0 := Try.zeroValue0
  t3 := Try.underlying3
  a3 := Try.isAgg3
  z3 := Try.sizeOf3
  v3 := Try.zeroValue3
  t4 := Try.underlying4
  a4 := Try.isAgg4
  z4 := Try.sizeOf4
  v4 := Try.zeroValue4
  t9 := Try.underlying9
  a9 := Try.isAgg9
  z9 := Try.sizeOf9
  v9 := Try.zeroValue9
  t20 := Try.underlying20
  a20 := Try.isAgg20
  z20 := Try.sizeOf20
  v20 := Try.zeroValue20
  t37 := Try.underlying84
  a37 := Try.isAgg84
  z37 := Try.sizeOf84
  v37 := Try.zeroValue84
  t70 := Try.underlying83
  a70 := Try.isAgg83
  z70 := Try.sizeOf83
  v70 := Try.zeroValue83
  t72 := Try.underlying86
  a72 := Try.isAgg86
  z72 := Try.sizeOf86
  v72 := Try.zeroValue86
  t164 := Try.underlying132
  a164 := Try.isAgg132
  z164 := Try.sizeOf132
  v164 := Try.zeroValue132 }
theorem Try.Builder_Extra_165 : Builder.Extra Try.prog Try.lays165_ren := {
  sizeBuilder := by kernel_rfl
  liesBuilder := by kernel_rfl
  t5 := Try.underlying5
  a5 := Try.isAgg5
  z5 := Try.sizeOf5
  v5 := Try.zeroValue5
  infoByte := by kernel_rfl
  cellsByte := by kernel_rfl
  sizeByte := by kernel_rfl
  neB5 := by decide }
open Go.RowKit in
/-- (*strings.Builder).Grow AT A BUILDER THAT HAS NOT BEEN WRITTEN ('var b strings.Builder; b.Grow(n)'): "Grow grows b's capacity, if necessary, to guarantee space for another n bytes.": it holds no byte behind it as before it. (LAID: no walk: one application.) -/
theorem Try.Builder_Grow_fresh (B b n : Nat) (w : World) (hB : B ≤ b) (hbk : w.heap[b]? = some (.cells #[.pointer none, .slice none 0 0] 86 (0, 0))) (hBw : B ≤ w.heap.size) (hn : n ≤ 281474976710656) :
    Calls Try.prog 46 #[.pointer (some ⟨b, 0, none⟩), .int .i64 n] w fun e w' => e = .returned (.tuple #[]) ∧ (Lib.BuilderAt 86 5 B b (.pointer (some ⟨b, 0, none⟩)) [] w' ∧ Below B w w') := Any.Builder_Grow_fresh Try.lays165 Try.Builder_Extra_165 B b n w hB hbk hBw hn
def Try.lays156_ren : Go.Shelf.Ren := ⟨fun | 156 => 22 | 165 => 46 | 166 => 47 | 169 => 48 | 240 => 67 | 241 => 68 | 276 => 83 | 277 => 84 | n => n, fun | 31 => 54 | 9 => 9 | 3 => 3 | 4 => 4 | 0 => 0 | 20 => 20 | 72 => 86 | 76 => 90 | 70 => 83 | 37 => 84 | 75 => 89 | 127 => 114 | 164 => 132 | 5 => 5 | 80 => 92 | n => n, fun | n => n⟩
theorem Try.lays156 : Go.Proofs.Lays.n156 Try.prog Try.lays156_ren := {
  mixed := by kernel_rfl
  f156 := Try.func22.trans (congrArg some (by kernel_rfl))
  f165 := Try.func46.trans (congrArg some (by kernel_rfl))
  f166 := Try.func47.trans (congrArg some (by kernel_rfl))
  f169 := Try.func48.trans (congrArg some (by kernel_rfl))
  f240 := Try.func67.trans (congrArg some (by kernel_rfl))
  f241 := Try.func68.trans (congrArg some (by kernel_rfl))
  f276 := Try.func83.trans (congrArg some (by kernel_rfl))
  f277 := Try.func84.trans (congrArg some (by kernel_rfl))
  t0 := Try.underlying0
  a0 := Try.isAgg0
  z0 := Try.sizeOf0
  v0 := Try.zeroValue0
  t3 := Try.underlying3
  a3 := Try.isAgg3
  z3 := Try.sizeOf3
  v3 := Try.zeroValue3
  t4 := Try.underlying4
  a4 := Try.isAgg4
  z4 := Try.sizeOf4
  v4 := Try.zeroValue4
  t9 := Try.underlying9
  a9 := Try.isAgg9
  z9 := Try.sizeOf9
  v9 := Try.zeroValue9
  t20 := Try.underlying20
  a20 := Try.isAgg20
  z20 := Try.sizeOf20
  v20 := Try.zeroValue20
  t31 := Try.underlying54
  a31 := Try.isAgg54
  z31 := Try.sizeOf54
  v31 := Try.zeroValue54
  t37 := Try.underlying84
  a37 := Try.isAgg84
  z37 := Try.sizeOf84
  v37 := Try.zeroValue84
  t70 := Try.underlying83
  a70 := Try.isAgg83
  z70 := Try.sizeOf83
  v70 := Try.zeroValue83
  t72 := Try.underlying86
  a72 := Try.isAgg86
  z72 := Try.sizeOf86
  v72 := Try.zeroValue86
  t75 := Try.underlying89
  a75 := Try.isAgg89
  z75 := Try.sizeOf89
  v75 := Try.zeroValue89
  t76 := Try.underlying90
  a76 := Try.isAgg90
  z76 := Try.sizeOf90
  v76 := Try.zeroValue90
  t127 := Try.underlying114
  a127 := Try.isAgg114
  z127 := Try.sizeOf114
  v127 := Try.zeroValue114
  t164 := Try.underlying132
  a164 := Try.isAgg132
  z164 := Try.sizeOf132
  v164 := Try.zeroValue132 }
theorem Try.Builder_Extra_156 : Builder.Extra Try.prog Try.lays156_ren := {
  sizeBuilder := by kernel_rfl
  liesBuilder := by kernel_rfl
  t5 := Try.underlying5
  a5 := Try.isAgg5
  z5 := Try.sizeOf5
  v5 := Try.zeroValue5
  infoByte := by kernel_rfl
  cellsByte := by kernel_rfl
  sizeByte := by kernel_rfl
  neB5 := by decide }
open Go.RowKit in
/-- No element: the empty string; the world is as it was. (Whatever the slice's address and capacity: a nil slice too.) (LAID: no walk: one application.) -/
theorem Try.strings_Join_none (a : Option Addr) (c : Nat) (sep : ByteArray) (w : World) :
    Calls Try.prog 22 #[.slice a 0 c, .string sep] w fun e w' => e = .returned (.string ⟨#[]⟩) ∧ w' = w := Any.strings_Join_none Try.lays156 Try.Builder_Extra_156 a c sep w
open Go.RowKit in
/-- strings.Join: "Join concatenates the elements of its first argument to create a single string. The separator string sep is placed between elements in the resulting string.": HOWEVER MANY ELEMENTS. Below the heap's end the world is as it was. (LAID: no walk: one application.) -/
theorem Try.strings_Join (bk o c : Nat) (xs : List ByteArray) (sep : ByteArray) (w : World) (hcells : ∀ (j : Nat) x, xs[j]? = some x → w.cell? ⟨bk, o + j, none⟩ = some (.string x)) (hbk : bk < w.heap.size) (hN : xs.length ≤ 140737488355328) (hcap : xs.length ≤ c) (hlen : (Lib.join (xs.map (·.data.toList)) sep.data.toList).length ≤ 140737488355328) :
    Calls Try.prog 22 #[.slice (some ⟨bk, o, none⟩) xs.length c, .string sep] w fun e w' => e = .returned (.string ⟨(Lib.join (xs.map (·.data.toList)) sep.data.toList).toArray⟩) ∧ Below w.heap.size w w' := Any.strings_Join Try.lays156 Try.Builder_Extra_156 bk o c xs sep w hcells hbk hN hcap hlen
def Try.lays128_ren : Go.Shelf.Ren := ⟨fun | 128 => 97 | n => n, fun | 51 => 148 | 3 => 3 | 4 => 4 | 46 => 120 | 5 => 5 | 9 => 9 | n => n, fun | n => n⟩
theorem Try.lays128 : Go.Proofs.Lays.n128 Try.prog Try.lays128_ren := {
  mixed := by kernel_rfl
  f128 := Try.func97.trans (congrArg some (by kernel_rfl))
  t3 := Try.underlying3
  a3 := Try.isAgg3
  z3 := Try.sizeOf3
  v3 := Try.zeroValue3
  t4 := Try.underlying4
  a4 := Try.isAgg4
  z4 := Try.sizeOf4
  v4 := Try.zeroValue4
  t5 := Try.underlying5
  a5 := Try.isAgg5
  z5 := Try.sizeOf5
  v5 := Try.zeroValue5
  t9 := Try.underlying9
  a9 := Try.isAgg9
  z9 := Try.sizeOf9
  v9 := Try.zeroValue9
  t46 := Try.underlying120
  a46 := Try.isAgg120
  z46 := Try.sizeOf120
  v46 := Try.zeroValue120
  t51 := Try.underlying148
  a51 := Try.isAgg148
  z51 := Try.sizeOf148
  v51 := Try.zeroValue148 }
/-- bits.Len32: "Len32 returns the minimum number of bits required to represent x; the result is 0 for x == 0.": IT RETURNS 'Lib.bitLen x'; the world is as it was. ('h0', 'h1': x is a uint32.) (LAID: no walk: one application.) -/
theorem Try.bits_Len32 (x : Int) (w : World) (h0 : 0 ≤ x) (h1 : x ≤ 4294967295) :
    Calls Try.prog 97 #[.int .u32 x] w fun e w' => e = .returned (.int .i64 (Lib.bitLen x.toNat)) ∧ w' = w := Any.bits_Len32 Try.lays128 x w h0 h1
def Try.lays125_ren : Go.Shelf.Ren := ⟨fun | 125 => 74 | 128 => 97 | 129 => 98 | n => n, fun | 46 => 120 | 3 => 3 | 51 => 148 | 53 => 150 | 4 => 4 | 5 => 5 | 9 => 9 | n => n, fun | n => n⟩
theorem Try.lays125 : Go.Proofs.Lays.n125 Try.prog Try.lays125_ren := {
  mixed := by kernel_rfl
  f125 := Try.func74.trans (congrArg some (by kernel_rfl))
  f128 := Try.func97.trans (congrArg some (by kernel_rfl))
  f129 := Try.func98.trans (congrArg some (by kernel_rfl))
  t3 := Try.underlying3
  a3 := Try.isAgg3
  z3 := Try.sizeOf3
  v3 := Try.zeroValue3
  t4 := Try.underlying4
  a4 := Try.isAgg4
  z4 := Try.sizeOf4
  v4 := Try.zeroValue4
  t5 := Try.underlying5
  a5 := Try.isAgg5
  z5 := Try.sizeOf5
  v5 := Try.zeroValue5
  t9 := Try.underlying9
  a9 := Try.isAgg9
  z9 := Try.sizeOf9
  v9 := Try.zeroValue9
  t46 := Try.underlying120
  a46 := Try.isAgg120
  z46 := Try.sizeOf120
  v46 := Try.zeroValue120
  t51 := Try.underlying148
  a51 := Try.isAgg148
  z51 := Try.sizeOf148
  v51 := Try.zeroValue148
  t53 := Try.underlying150
  a53 := Try.isAgg150
  z53 := Try.sizeOf150
  v53 := Try.zeroValue150 }
/-- bits.Len: "Len returns the minimum number of bits required to represent x; the result is 0 for x == 0.": IT RETURNS 'Lib.bitLen x'; the world is as it was. (A uint has 64 bits in the model.) ITS CALLEE bits.Len64 IS MET BY ITS OWN CONTRACT OFF THE SHELF (lay that first). (LAID: no walk: one application.) -/
theorem Try.bits_Len (x : Int) (w : World) (h0 : 0 ≤ x) (h1 : x ≤ 18446744073709551615) :
    Calls Try.prog 74 #[.int .u64 x] w fun e w' => e = .returned (.int .i64 (Lib.bitLen x.toNat)) ∧ w' = w := Any.bits_Len Try.lays125 x w h0 h1
def Try.lays213_ren : Go.Shelf.Ren := ⟨fun | 213 => 107 | 265 => 117 | n => n, fun | 9 => 9 | 3 => 3 | n => n, fun | n => n⟩
theorem Try.lays213 : Go.Proofs.Lays.n213 Try.prog Try.lays213_ren := {
  mixed := by kernel_rfl
  f213 := Try.func107.trans (congrArg some (by kernel_rfl))
  f265 := Try.func117.trans (congrArg some (by kernel_rfl))
  t3 := Try.underlying3
  a3 := Try.isAgg3
  z3 := Try.sizeOf3
  v3 := Try.zeroValue3
  t9 := Try.underlying9
  a9 := Try.isAgg9
  z9 := Try.sizeOf9
  v9 := Try.zeroValue9 }
open Go.RowKit in
/-- internal/bytealg.CompareString (what strings.Compare calls): IT RETURNS 'Lib.compareBytes a b'; the world is as it was. (LAID: no walk: one application.) -/
theorem Try.bytealg_CompareString (a b : ByteArray) (w : World) :
    Calls Try.prog 107 #[.string a, .string b] w fun e w' => e = .returned (.int .i64 (Lib.compareBytes a.data.toList b.data.toList)) ∧ w' = w := Any.bytealg_CompareString Try.lays213 a b w
def Try.lays106_ren : Go.Shelf.Ren := ⟨fun | 106 => 81 | 213 => 107 | 265 => 117 | n => n, fun | 9 => 9 | 3 => 3 | n => n, fun | n => n⟩
theorem Try.lays106 : Go.Proofs.Lays.n106 Try.prog Try.lays106_ren := {
  mixed := by kernel_rfl
  f106 := Try.func81.trans (congrArg some (by kernel_rfl))
  f213 := Try.func107.trans (congrArg some (by kernel_rfl))
  f265 := Try.func117.trans (congrArg some (by kernel_rfl))
  t3 := Try.underlying3
  a3 := Try.isAgg3
  z3 := Try.sizeOf3
  v3 := Try.zeroValue3
  t9 := Try.underlying9
  a9 := Try.isAgg9
  z9 := Try.sizeOf9
  v9 := Try.zeroValue9 }
open Go.RowKit in
/-- strings.Compare: "Compare returns an integer comparing two strings lexicographically. The result will be 0 if a == b, -1 if a < b, and +1 if a > b.": IT RETURNS 'Lib.compareBytes a b'; the world is as it was. (LAID: no walk: one application.) -/
theorem Try.strings_Compare (a b : ByteArray) (w : World) :
    Calls Try.prog 81 #[.string a, .string b] w fun e w' => e = .returned (.int .i64 (Lib.compareBytes a.data.toList b.data.toList)) ∧ w' = w := Any.strings_Compare Try.lays106 a b w
def Try.lays129_ren : Go.Shelf.Ren := ⟨fun | 129 => 98 | n => n, fun | 53 => 150 | 3 => 3 | 4 => 4 | 46 => 120 | 5 => 5 | 9 => 9 | n => n, fun | n => n⟩
theorem Try.lays129 : Go.Proofs.Lays.n129 Try.prog Try.lays129_ren := {
  mixed := by kernel_rfl
  f129 := Try.func98.trans (congrArg some (by kernel_rfl))
  t3 := Try.underlying3
  a3 := Try.isAgg3
  z3 := Try.sizeOf3
  v3 := Try.zeroValue3
  t4 := Try.underlying4
  a4 := Try.isAgg4
  z4 := Try.sizeOf4
  v4 := Try.zeroValue4
  t5 := Try.underlying5
  a5 := Try.isAgg5
  z5 := Try.sizeOf5
  v5 := Try.zeroValue5
  t9 := Try.underlying9
  a9 := Try.isAgg9
  z9 := Try.sizeOf9
  v9 := Try.zeroValue9
  t46 := Try.underlying120
  a46 := Try.isAgg120
  z46 := Try.sizeOf120
  v46 := Try.zeroValue120
  t53 := Try.underlying150
  a53 := Try.isAgg150
  z53 := Try.sizeOf150
  v53 := Try.zeroValue150 }
/-- bits.Len64: "Len64 returns the minimum number of bits required to represent x; the result is 0 for x == 0.": IT RETURNS 'Lib.bitLen x'; the world is as it was. ('h0', 'h1': x is a uint64.) (LAID: no walk: one application.) -/
theorem Try.bits_Len64 (x : Int) (w : World) (h0 : 0 ≤ x) (h1 : x ≤ 18446744073709551615) :
    Calls Try.prog 98 #[.int .u64 x] w fun e w' => e = .returned (.int .i64 (Lib.bitLen x.toNat)) ∧ w' = w := Any.bits_Len64 Try.lays129 x w h0 h1
def Try.laysSlE33_f32_ren : Go.Shelf.Ren := ⟨fun | 33 => 32 | n => n, fun | 22 => 54 | 23 => 9 | 4 => 4 | 3 => 3 | 0 => 0 | n => n, fun | n => n⟩
theorem Try.laysSlE33_f32 : Go.Proofs.SlLaysE.n33 Try.prog Try.laysSlE33_f32_ren := {
  mixed := by kernel_rfl
  f33 := ⟨Try.f32.name, by decide, Try.func32.trans (congrArg some (by kernel_rfl))⟩
  t0 := Try.underlying0
  a0 := Try.isAgg0
  z0 := Try.sizeOf0
  v0 := Try.zeroValue0
  t3 := Try.underlying3
  a3 := Try.isAgg3
  z3 := Try.sizeOf3
  v3 := Try.zeroValue3
  t4 := Try.underlying4
  a4 := Try.isAgg4
  z4 := Try.sizeOf4
  v4 := Try.zeroValue4
  t22 := Try.underlying54
  a22 := Try.isAgg54
  z22 := Try.sizeOf54
  v22 := Try.zeroValue54
  a23 := Try.isAgg9
  z23 := Try.sizeOf9 }
open Go.RowKit Go.Lib in
/-- slices.Equal: "Equal reports whether two slices are equal: the same length and all elements equal. .. Empty and nil slices are considered equal. Floating point NaNs are not considered equal.": IT RETURNS 'Lib.allEq eq (the one's elements) (the other's)'; the world is as it was but for the count of draws. (LAID AT THE INSTANCE 'slices.Equal[[]string,string]': no walk: one application.) -/
theorem Try.slices_Equal {α : Type} [Inhabited α] (enc : α → Value) (eq : α → α → Bool) (hne : NeqAt Try.prog 9 enc eq) (b1 o1 n c b2 o2 m d : Nat) (xs ys : List α) (w : World) (hx : n ≤ xs.length) (hy : m ≤ ys.length) (hbig : n ≤ 9223372036854775807) (hbig2 : m ≤ 9223372036854775807) (hc1 : ∀ j, j < xs.length → w.cell? ⟨b1, o1 + j, none⟩ = some (enc xs[j]!)) (hc2 : ∀ j, j < ys.length → w.cell? ⟨b2, o2 + j, none⟩ = some (enc ys[j]!)) :
    Calls Try.prog 32 #[.slice (some ⟨b1, o1, none⟩) n c, .slice (some ⟨b2, o2, none⟩) m d] w fun e w' => e = .returned (.bool (Lib.allEq eq (xs.take n) (ys.take m))) ∧ ∃ q, w' = w.drewN q := AnyE.slices_Equal Try.laysSlE33_f32 enc eq hne b1 o1 n c b2 o2 m d xs ys w hx hy hbig hbig2 hc1 hc2
end Go.Proofs
end
set_option linter.unusedVariables false
set_option linter.unusedSimpArgs false
namespace Go.Proofs
open Go Go.Am Go.Shelf Go.RowKit Go.Lib Go.Sort

def Try.compAddr_ren : Go.Shelf.Ren := ⟨fun | 43 => 65 | n => n, fun | 22 => 46 | 23 => 50 | n => n, fun | n => n⟩
theorem Try.compAddr : CompLays Try.prog Try.compAddr_ren := {
  mixed := by kernel_rfl
  f43 := ⟨Try.f65.name, by decide, Try.func65.trans (congrArg some (by kernel_rfl))⟩
  t0 := Try.underlying0
  a0 := Try.isAgg0
  z0 := Try.sizeOf0
  v0 := Try.zeroValue0
  t3 := Try.underlying3
  a3 := Try.isAgg3
  z3 := Try.sizeOf3
  v3 := Try.zeroValue3
  t4 := Try.underlying4
  a4 := Try.isAgg4
  z4 := Try.sizeOf4
  v4 := Try.zeroValue4
  t22 := Try.underlying46
  a22 := Try.isAgg46
  z22 := Try.sizeOf46
  v22 := Try.zeroValue46 }

theorem Try.infoAddr : (Try.prog.info? 50).map (fun i => (i.zero, i.size, i.bytes)) = some (some (.agg #[.string ByteArray.empty, .string ByteArray.empty]), 2, 32) := by kernel_rfl
theorem Try.eqAddr0 (x y : Pr) (w : World) : (Op.equalIn 10000 50 (.agg (encPr x).toArray) (.agg (encPr y).toArray)).run Try.prog w = .ok (decide (x = y)) w := by
  have u9 := Try.underlying9
  have a9 := Try.isAgg9
  have z9 := Try.sizeOf9
  have hS : Try.prog.underlying 50 = some (.struct (Try.prog.fieldsOf 50)) := by kernel_rfl
  have hp : Try.prog.stoodInHeld 50 = false := by kernel_rfl
  obtain ⟨x1, x2⟩ := x
  obtain ⟨y1, y2⟩ := y
  simp only [encPr]
  rw [show (10000 : Nat) = 9999 + 1 from rfl, run_equalIn_agg w 9999 50 _ _ hS hp]
  simp only [Program.fieldsOf, Try.underlying50]
  go_simp
  by_cases h1 : x1 = y1 <;> by_cases h2 : x2 = y2 <;> simp [h1, h2]
theorem Try.eqAddr : EqlAt Try.prog 50 (fun x : Pr => .agg (encPr x).toArray) (fun x y => decide (x = y)) := by
  refine ⟨fun x y w => ?_, GuardAt.agg _ (by kernel_rfl)⟩
  rw [run_eql_struct, Try.eqAddr0]
  rfl
theorem Try.neAddr : NeqAt Try.prog 50 (fun x : Pr => .agg (encPr x).toArray) (fun x y => decide (x = y)) := by
  refine ⟨fun x y w => ?_, GuardAt.agg _ (by kernel_rfl)⟩
  rw [run_neq_struct, Try.eqAddr0]
  rfl

set_option maxHeartbeats 1000000 in
set_option maxRecDepth 100000 in
theorem Try.cmpAddr (x y : Pr) (W : World) : Calls Try.prog 64 #[.agg (encPr x).toArray, .agg (encPr y).toArray] W fun e w' => e = .returned (.int .i64 (cmpPr x y)) ∧ ∃ q os', w' = grow (W.drewN q) os' := by
  obtain ⟨x1, x2⟩ := x
  obtain ⟨y1, y2⟩ := y
  have h1 := fun W' => Try.strings_Compare ⟨x1.toArray⟩ ⟨y1.toArray⟩ W'
  have h2 := fun W' => Try.strings_Compare ⟨x2.toArray⟩ ⟨y2.toArray⟩ W'
  have e1 : cmpPr (x1, x2) (y1, y2) = if Lib.compareBytes x1 y1 ≠ 0 then Lib.compareBytes x1 y1 else Lib.compareBytes x2 y2 := rfl
  rw [e1]
  clear e1
  simp only [encPr]
  change ∀ W', Calls Try.prog 81 _ W' (fun e w' => e = .returned (.int .i64 (Lib.compareBytes x1 y1)) ∧ w' = W') at h1
  change ∀ W', Calls Try.prog 81 _ W' (fun e w' => e = .returned (.int .i64 (Lib.compareBytes x2 y2)) ∧ w' = W') at h2
  generalize Lib.compareBytes x1 y1 = r1 at h1 ⊢
  generalize Lib.compareBytes x2 y2 = r2 at h2 ⊢
  generalize (⟨x1.toArray⟩ : ByteArray) = s1 at h1 ⊢
  generalize (⟨y1.toArray⟩ : ByteArray) = s2 at h1 ⊢
  generalize (⟨x2.toArray⟩ : ByteArray) = s3 at h2 ⊢
  generalize (⟨y2.toArray⟩ : ByteArray) = s4 at h2 ⊢
  by_cases hr : r1 = 0
  · subst hr
    go_enter Try.func64, Try.ntmps64
    go_wp2_with (go_at_call 81; first | (refine (h1 _).mono ?_; rintro e w' ⟨rfl, rfl⟩) | (refine (h2 _).mono ?_; rintro e w' ⟨rfl, rfl⟩))
    go_ret
    exact ⟨rfl, 0, _, by rw [alloc_eq_grow, alloc_eq_grow, grow_grow]; rfl⟩
  · go_enter Try.func64, Try.ntmps64
    go_wp2_with (go_at_call 81; first | (refine (h1 _).mono ?_; rintro e w' ⟨rfl, rfl⟩) | (refine (h2 _).mono ?_; rintro e w' ⟨rfl, rfl⟩))
    go_ret
    exact ⟨by simp [hr], 0, _, by rw [alloc_eq_grow, alloc_eq_grow, grow_grow]; rfl⟩

theorem ltPr_swo : SWO (ltOf cmpPr) where
  irrefl x := lt_irrefl x
  trans x y z h1 h2 := lt_trans' (x := x) h1 h2
  ntrans x y z h1 h2 := by
    cases h : ltOf cmpPr x z with
    | false => rfl
    | true =>
      by_cases e : y = z
      · subst e; rw [h] at h1; cases h1
      · have := lt_trans' (x := x) h (lt_of_not h2 (Ne.symm (fun e' => e e'.symm)).symm)
        rw [show ltPr x y = ltOf cmpPr x y from rfl, h1] at this
        cases this
theorem news_get (l : List Pr) : ∀ (j : Nat), (l.flatMap encPr)[j]? = l[j / 2]?.bind fun p => (encPr p)[j % 2]? := by
  induction l with
  | nil => intro j; simp
  | cons p l ih =>
    intro j
    rw [List.flatMap_cons]
    by_cases h : j < 2
    · rw [List.getElem?_append_left (by simpa [encPr] using h), show j / 2 = 0 by omega, show j % 2 = j by omega]
      rfl
    · rw [List.getElem?_append_right (by simp [encPr]; omega), show (encPr p).length = 2 from rfl, ih, show j / 2 = (j - 2) / 2 + 1 by omega, show (j - 2) % 2 = j % 2 by omega]
      rfl
theorem news_len (l : List Pr) : (l.flatMap encPr).length = l.length * 2 := by
  induction l with
  | nil => rfl
  | cons p l ih => rw [List.flatMap_cons, List.length_append, ih, List.length_cons]; simp [encPr]; omega
theorem holds_news {w : World} {base g n cap : Nat} {ty : TypeId} {l : List Pr} (h : w.ownsRow base ty 2 (.slice (some ⟨g, 0, none⟩) n cap) n (l.flatMap encPr)) : ∃ cur, w.heap[g]? = some (.cells cur ty (0, 0)) ∧ cur.size = cap * 2 ∧ n = l.length ∧ n ≤ cap ∧ cap ≤ maxLen ∧ base ≤ g ∧ HoldsK encPr 2 w g 0 l.toArray := by
  have hn : l.length = n := by have := h.1; rw [news_len] at this; omega
  rcases h.2 with ⟨e, _⟩ | ⟨g', cap', cur, hv, hb, hg, h1, h2, h3, h4⟩
  · cases e
  · injection hv with e1 e2 e3
    injection e1 with e1
    injection e1 with e1 _
    subst e1 e3
    refine ⟨cur, hg, h3, hn.symm, h1, h2, hb, fun t ht => ?_⟩
    have ht' : t < l.length * 2 := by simpa using ht
    refine ⟨?_, by simp [World.frozen?, hg]⟩
    have e : (cur.toList.take (n * 2))[t]? = (l.flatMap encPr)[t]? := by rw [h4]
    rw [List.getElem?_take, if_pos (by omega), news_get] at e
    have hj : t / 2 < l.length := by omega
    rw [List.getElem?_eq_getElem hj] at e
    have hm : t % 2 < (encPr l[t / 2]).length := by show t % 2 < 2; omega
    simp only [Option.bind_some] at e
    rw [List.getElem?_eq_getElem hm] at e
    show w.cell? ⟨g, 0 + t, none⟩ = some (id (flatK encPr 2 l.toArray)[t]!)
    rw [get_flatK _ _ _ _ (by simpa using ht')]
    have e5 : l.toArray[t / 2]! = l[t / 2] := by simp [hj]
    rw [e5, getElem!_pos (encPr l[t / 2]) (t % 2) hm, Nat.zero_add]
    simp only [World.cell?, hg, id]
    rw [← e]
    simp

set_option maxHeartbeats 1000000 in
set_option maxRecDepth 100000 in
/-- What stands behind the copy: it is sorted and compacted. -/
theorem Try.sortTail (l : List Pr) (w W1 : World) (g cap : Nat) (cur : Array Value) (hb : RowKit.Below w.heap.size w W1) (hg : w.heap.size ≤ g) (hg1 : W1.heap[g]? = some (.cells cur 50 (0, 0))) (hcs : cur.size = cap * 2) (hcap : l.length ≤ cap) (hm : cap ≤ maxLen) (hl : l.length ≤ 1099511627776) (hH : HoldsK encPr 2 W1 g 0 l.toArray) :
    Calls Try.prog 63 #[.slice (some ⟨g, 0, none⟩) l.length cap, .func (.func 64) #[] #[]] W1 fun e W2 => e = .returned (.tuple #[]) ∧
      Calls Try.prog 65 #[.slice (some ⟨g, 0, none⟩) l.length cap] W2 (LeftPr w l) := by
  have hlt1 : g < W1.heap.size := by
    rcases Nat.lt_or_ge g W1.heap.size with h | h
    · exact h
    · rw [Array.getElem?_eq_none h] at hg1; cases hg1
  have eg : ∀ args w, (callFunc 64 args).run Try.prog w = .ok (.enter 64 args) w := enters_of Try.func64 (by kernel_rfl) rfl
  have hcon := AnyQ.slices_SortFunc Try.sortAddr 2 Try.isAgg50 Try.sizeOf50 encPr (fun _ => rfl) (fun x v hv => by simp [encPr] at hv; rcases hv with rfl | rfl <;> rfl) cmpPr ltPr_swo 64 #[] g 0 cap l.toArray W1 eg (fun _ _ _ _ x y => Try.cmpAddr x y _) hH hlt1 (by simp; omega)
  have hsz : l.toArray.size = l.length := by simp
  rw [hsz] at hcon
  refine hcon.mono ?_
  rintro e W2 ⟨rfl, d', nn, os, hp, hs, rfl⟩
  refine ⟨rfl, ?_⟩
  have hu := sorted_unique_holds ltPr_swo (fun x y h1 h2 => lt_tri (x := x) (y := y) h1 h2) l.toArray d' (by rw [hsz]; exact hp) (by rw [hsz]; exact hs)
  have hd : d' = (l.mergeSort fun x y => !ltPr y x).toArray := Array.ext' (show d'.toList = _ from hu)
  have hds : d'.size = l.length := by rw [hd]; simp
  have hH2 : HoldsK encPr 2 (sortWorldK encPr 2 W1 g 0 nn d' os) g 0 d' :=
    holdsK_grow encPr 2 _ os g 0 d' (by simp only [putRowK, size_putRow, heap_ahead]; exact hlt1) (holdsK_putRowK encPr 2 _ g 0 l.toArray d' (holdsK_ahead encPr 2 W1 nn g 0 _ hH) (by rw [hds]; simp))
  have hc := compact_struct Try.compAddr 2 Try.isAgg50 Try.sizeOf50 encPr (fun _ => rfl) (fun x v hv => by simp [encPr] at hv; rcases hv with rfl | rfl <;> rfl) Try.eqAddr Try.neAddr ([], []) Try.zeroValue50 g 0 cap d' _ hH2 (by rw [hds]; omega) (by rw [hds]; exact hcap)
  rw [hds] at hc
  refine Calls.mono hc ?_
  rintro e W3 ⟨rfl, q, F, hF, rfl, hFx⟩
  rw [← hds] at hF hFx
  have := left_pr (nn := nn) (q := q) (os := os) hb hg hg1 hcap hm hcs hd hF hFx
  rw [hds] at this
  exact this

set_option maxHeartbeats 2000000 in
set_option maxRecDepth 100000 in
theorem Try.SortAddrs_some (bk o cap : Nat) (l : List Pr) (w : World) (h0 : 0 < l.length) (hc : ∀ j x, l[j]? = some x → ∀ t v, (encPr x)[t]? = some v → w.cell? ⟨bk, o + j * 2 + t, none⟩ = some v) (hb : bk < w.heap.size) (hl : l.length ≤ 1099511627776) (hcap : l.length ≤ cap) :
    Calls Try.prog 44 #[.slice (some ⟨bk, o, none⟩) l.length cap] w fun e w' => LeftPr w l e w' := by
  obtain ⟨i0, hi, hz0, hz1, hz2⟩ := info_parts Try.infoAddr
  have hnews : ∀ (W : World), RowKit.Below w.heap.size w W → ∀ j u, (l.flatMap encPr)[j]? = some u → W.cell? ((⟨bk, o, none⟩ : Addr).add j) = some u := fun W hW j u hj => by
    have hjl : j < l.length * 2 := by rw [← news_len]; exact (List.getElem?_eq_some_iff.1 hj).1
    rw [news_get] at hj
    have hj2 : j / 2 < l.length := by omega
    rw [List.getElem?_eq_getElem hj2, Option.bind_some] at hj
    have := hc (j / 2) _ (List.getElem?_eq_getElem hj2) (j % 2) u hj
    rw [Addr.add_lit, hW.cell (p := ⟨bk, o + j, none⟩) hb]
    rwa [show o + j / 2 * 2 + j % 2 = o + j by omega] at this
  have HN : Aside (∀ (W : World), RowKit.Below w.heap.size w W → ∀ j u, (l.flatMap encPr)[j]? = some u → W.cell? ((⟨bk, o, none⟩ : Addr).add j) = some u) := hnews
  clear hnews hc
  have H1 : Aside (∀ u ∈ l.flatMap encPr, u.oneCell' = true) := fun u hu => by
    obtain ⟨p, _, hp⟩ := List.mem_flatMap.1 hu
    simp [encPr] at hp
    rcases hp with rfl | rfl <;> rfl
  have HA : Aside (RowKit.Below w.heap.size w (w.alloc (.cells #[] 50 (0, 0)))) := (RowKit.Below.refl _ _).alloc (Nat.le_refl _) _
  have HO : Aside ((w.alloc (.cells #[] 50 (0, 0))).ownsRow w.heap.size 50 2 (.slice (some ⟨w.heap.size, 0, none⟩) 0 0) 0 []) := ⟨rfl, .inr ⟨w.heap.size, 0, #[], rfl, Nat.le_refl _, (show (w.heap.push _)[w.heap.size]? = _ by simp), Nat.le_refl _, Nat.zero_le _, rfl, rfl⟩⟩
  have NL := news_len l
  generalize hxs : l.flatMap encPr = news at HN H1 NL
  go_enter Try.func44, Try.ntmps44
  go_wp2_with (first
    | (at_builtin; refine wpList_append_lies _ rfl _ _ 46 rfl w.heap.size 50 i0 (.agg #[.string ByteArray.empty, .string ByteArray.empty]) 2 32 Try.underlying46 hi hz0 hz1 hz2 rfl (by decide) (.slice (some ⟨w.heap.size, 0, none⟩) 0 0) 0 [] rfl HO.out ⟨bk, o, none⟩ l.length cap news rfl NL (HN.out _ HA.out) H1.out h0 (by unfold maxLen; omega) (by omega) (show w.heap.size ≤ (w.heap.push _).size by simp) _ rfl ?_; intro g cap1 W1 hown hgrow hat hlt
       rw [List.nil_append, Nat.zero_add] at hown
       rw [← hxs] at hown
       obtain ⟨cur, hg1, hcs, hnl, hcap1, hm1, hbg, hH⟩ := holds_news hown
       have hb1 : RowKit.Below w.heap.size w W1 := RowKit.Below.grown HA.out hgrow (show w.heap.size ≤ (w.heap.push _).size by simp) (fun k hk => by simp [Value.ownBlock] at hk; omega)
       have hT := Try.sortTail l w W1 g cap1 cur hb1 hbg hg1 hcs hcap1 hm1 hl hH
       clear hown hgrow hat hlt hg1 hcs hnl hcap1 hm1 hbg hH hb1)
    | (go_at_call 63; refine hT.mono ?_; rintro e W2 ⟨rfl, hC⟩)
    | (go_at_call 65; refine hC.mono ?_; intro e W3 hL; obtain ⟨g3, cap3, cur3, ty3, rfl, hrest⟩ := id hL; have HL : Aside (LeftPr w l _ W3) := hL; clear hL hrest))
  go_ret
  exact HL.out
theorem run_append_none {P : Program} (w : World) (t ty e : TypeId) (i : TypeInfo) (ht : P.underlying t = some (.slice e)) (hi : P.info? e = some i) (p : Addr) (b : Option Addr) (cap : Nat) :
    (Builtin.append_ #[t, t] ty #[.slice (some p) 0 0, .slice b 0 cap]).run P w = .ok (.slice (some p) 0 0) w := by
  cases b <;> simp [Builtin.append_, run_underlying ht, sizeOf, typeInfo, hi, storeCells, loadCells, loadCellsFrom, Builtin.lenOf, Builtin.firstCells]
theorem wpList_append_none {P : Program} (w : World) {ops : Array Oper} {rest : List Oper} {o : Oper} {a : Act} {Q : Exit → Act → World → Prop} (hgd : o.guard = none) (s x : Operand) (t : TypeId)
    (ho : o.op = .call { callee := .builtin .append, args := #[s, x], argTypes := #[t, t] }) (e : TypeId) (i : TypeInfo) (ht : P.underlying t = some (.slice e)) (hi : P.info? e = some i) (p : Addr) (b : Option Addr) (cap : Nat)
    (hs : a.eval s = .slice (some p) 0 0) (hx : a.eval x = .slice b 0 cap) (h : wpList P ops Q rest (a.put o.dst (.slice (some p) 0 0)) w) : wpList P ops Q (o :: rest) a w :=
  wpList_plain hgd fun _ hK => by
    unfold Oper.wp execOp
    simp only [ho, resolve, invoke, builtin, Sem.run_bind, Sem.run_pure, Result.andThen_ok, List.map_toArray, List.map_cons, List.map_nil, hs, hx, run_append_none w t o.type e i ht hi p b cap]
    exact hK _ _ h
set_option maxHeartbeats 2000000 in
set_option maxRecDepth 100000 in
theorem Try.SortAddrs_none (a : Option Addr) (cap : Nat) (w : World) :
    Calls Try.prog 44 #[.slice a 0 cap] w fun e w' => LeftPr w [] e w' := by
  obtain ⟨i0, hi, hz0, hz1, hz2⟩ := info_parts Try.infoAddr
  have hT := Try.sortTail [] w (w.alloc (.cells #[] 50 (0, 0))) w.heap.size 0 #[] ((RowKit.Below.refl _ _).alloc (Nat.le_refl _) _) (Nat.le_refl _) (show (w.heap.push _)[w.heap.size]? = _ by simp) rfl (Nat.le_refl _) (Nat.zero_le _) (Nat.zero_le _) (fun t ht => by simp at ht)
  change Calls Try.prog 63 #[.slice (some ⟨w.heap.size, 0, none⟩) 0 0, .func (.func 64) #[] #[]] _ (fun e W2 => e = .returned (.tuple #[]) ∧ Calls Try.prog 65 #[.slice (some ⟨w.heap.size, 0, none⟩) 0 0] W2 (LeftPr w [])) at hT
  go_enter Try.func44, Try.ntmps44
  go_wp2_with (first
    | (at_builtin; refine wpList_append_none _ rfl _ _ 46 rfl 50 i0 Try.underlying46 hi ⟨w.heap.size, 0, none⟩ a cap rfl rfl ?_)
    | (go_at_call 63; refine hT.mono ?_; rintro e W2 ⟨rfl, hC⟩)
    | (go_at_call 65; refine hC.mono ?_; intro e W3 hL; obtain ⟨g3, cap3, cur3, ty3, rfl, hrest⟩ := id hL; have HL : Aside (LeftPr w [] _ W3) := hL; clear hL hrest))
  go_ret
  exact HL.out
end Go.Proofs
